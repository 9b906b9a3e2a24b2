/- Part 12. -/
import Derived.Test.YtngjnfbngheccaaGreatDoorU11
import Derived.Test.YtngjnfbngheccaaGreatDoorU7
set_option linter.unusedSimpArgs false
set_option linter.unusedVariables false
namespace Go.Proofs.YtngjnfbngheccaaGreatDoor.Pv
open Go Go.Tidy
def dZ:Ordering→Int
 | .lt=>-1
 | .eq=>0
 | .gt=>1
@[simp] theorem aRJ:dZ .lt=-1:=rfl
@[simp] theorem aRz:dZ .eq=0:=rfl
@[simp] theorem aRD:dZ .gt=1:=rfl
theorem jd {o:Ordering}:dZ o=0↔o=.eq:=by cases o<;>simp
def bs (l:List UInt8):S:=⟨l.toArray⟩
theorem apQ (s:S):bs s.data.toList=s:=by unfold bs; simp
@[simp] theorem aIF (l:List UInt8):(bs l).data.toList=l:=by simp[bs]
@[simp] theorem ag4 (l:List UInt8):(bs l).size=l.length:=by simp[bs,ByteArray.size]
@[simp] theorem aRL (l:List UInt8) (i:Nat):(bs l).data[i]? = l[i]? := by simp[bs]
@[simp] theorem aRH (l:List UInt8) (i:Nat) (h:i<(bs l).data.size):(bs l).data[i]=l[i]'(by simpa[bs] using h):=by simp[bs]
theorem aqm {c:UInt8} (d:UInt8):((c.toNat:Int)=(d.toNat:Int))↔c=d:=by rw[Int.natCast_inj]; exact UInt8.toNat_inj
@[simp] theorem aRN {c:UInt8}:((c.toNat:Int)=45)↔c=45:=aqm 45
@[simp] theorem aRO {c:UInt8}:((c.toNat:Int)=48)↔c=48:=aqm 48
@[simp] theorem aRI {c:UInt8}:((c.toNat:Int)<48)↔¬ 48≤c:=by rw[UInt8.le_iff_toNat_le]; simp; omega
@[simp] theorem aRK {c:UInt8}:(57<(c.toNat:Int))↔¬ c≤57:=by rw[UInt8.le_iff_toNat_le]; simp; omega
theorem aNa (a b:S):strLt a b=sLt a b:=rfl
theorem aMW (a b:S):strEq a b=sEq a b:=rfl
attribute [simp] aNa aMW
theorem agL (l:List UInt8) (a b:Nat):(bs l).extract a b=bs ((l.drop a).take (b-a)):=by
 unfold bs
 apply ByteArray.ext
 apply Array.ext'
 simp[ByteArray.data_extract,List.extract_eq_take_drop]
theorem aPB (l m:List UInt8):sEq (bs l) (bs m)=(l == m):=by simp[sEq]
theorem aaW (l m:List UInt8):sEq (bs l) ⟨m.toArray⟩=(l == m):=by simp[sEq]
theorem aPQ (l m:List UInt8):sLt (bs l) (bs m)=Op.bytesLess l m:=by simp[sLt]
theorem anr (a b:S):Ret prog M.aah [.str a,.str b] (.int .i64 (dZ (lq a b))):=by
 refine Ret.go ah aCS (by simp) fun hb w0 F0 hG=>?_
 simp +contextual [lq]
theorem uM (a b:Int):Ret prog M.zA [.int .i64 a,.int .i64 b] (.int .i64 (dZ (compare a b))):=by
 refine Ret.go ah aDK (by simp) fun hb w0 F0 hG=>?_
 simp +contextual
 refine⟨fun h=>by rw[ap7.2 h]; rfl,fun h=>⟨fun h'=>by rw[ax1.2 h']; rfl,fun h'=>by rw[adT.2 (by omega)]; rfl⟩⟩
theorem aQ9 {a b:Nat}:((a:Int)=(b:Int))↔a=b:=Int.natCast_inj
theorem axF {a b:Nat}:compare a b=.gt↔b<a:=by rw[QG,ax1]; omega
theorem Zu {a b:Nat}:compare a b=.lt↔a<b:=by rw[QG,ap7]; omega
theorem aoj (l:List UInt8) (h:0<l.length):Ret prog M.zu [.str (bs l)] (.tup [.bool (neg (bs l)),.str (bs (qW (bs l)))]):=by
 refine Ret.go ah aof (by simp) fun hb w0 F0 hG=>?_
 match l,h with
 | c::l,_ =>
   simp +contextual [neg,qW,agL]
   omega
theorem ar3 (l m:List UInt8):Ret prog M.Ku [.str (bs l),.str (bs m)] (.int .i64 (dZ (uj l m))):=by
 refine Ret.go ah asb (by simp) fun hb w0 F0 hG=>?_
 simp only[ig,jh,ag4,LIM,and_true] at hb
 simp +contextual [aPQ,aPB,aQ9,uj,aJR,Ordering.then]
 intro h
 rw[wrap64 (by omega) (by omega)]
 rcases Nat.lt_or_gt_of_ne h with h|h
 ·rw[Zu.2 h]; simp; repeat' split
  all_goals omega
 ·rw[axF.2 h]; simp; repeat' split
  all_goals omega
theorem aOF {l d:List UInt8} (hd:qW (bs l)=d) (h:l≠[48]):yg (bs l)=(d.all Gq&&!d.isEmpty&&d.head? != some 48):=by
 unfold yg
 rw[hd]
 have:(l == [48])=false:=by simpa using h
 simp[this]
theorem asl {α:Type} {p:α→Bool} {d:List α} {i:Nat} (hi:i<d.length) (h:(d.take i).all p=true):(d.take (i+1)).all p=p d[i]:=by
 rw[List.take_add_one,List.getElem?_eq_getElem hi]
 simp only[Option.toList_some,List.all_append,h,List.all_cons,List.all_nil,Bool.and_true,Bool.true_and]
theorem all_false {α:Type} {p:α→Bool} {d:List α} {i:Nat} (hi:i<d.length) (h:p d[i]=false):d.all p=false:=by
 rw[List.all_eq_false]
 exact⟨d[i],List.getElem_mem hi,by simp[h]⟩
theorem aeS {c:UInt8}:Gq c=true↔48≤c∧c≤57:=by simp[Gq]
theorem IG (s:S):Ret prog M.qg [.str s] (.bool (yg s)):=by
 obtain⟨l,rfl⟩ : ∃ l,s=bs l:=⟨_,(apQ s).symm⟩
 refine Ret.go ah amL (by simp) fun hb w0 F0 hG=>?_
 simp only[ig,jh,ag4,LIM,and_true] at hb
 simp +contextual [aaW]
 refine⟨fun h=>?_,fun h=>?_⟩
 ·subst h; decide
 ·refine bF.one ah ⟨[(0,.str (bs (qW (bs l)))),(2,.bool false)],[]⟩ ?_ ?_
  ·match l with
   | []=>simp +contextual [aaW,qW,neg]
   | c::m=>simp +contextual [aaW,qW,neg,agL]; omega
  ·have hdl:(qW (bs l)).length≤l.length:=by unfold qW; split<;>simp
   generalize hd:qW (bs l)=d at hdl
   rw[aOF hd h]
   match d with
   | []=>simp +contextual [aaW]
   | c::m =>
     simp +contextual [aaW]
     intro hc
     have hn:(c::m).length≤140737488355328:=by omega
     have hc' : (some c != some (48:UInt8))=true:=by simpa using hc
     rw[hc',Bool.and_true]
     have e:(Gq c&&m.all Gq)=(c::m).all Gq:=by simp
     rw[e]
     obtain⟨J,hJ⟩ : ∃ J:Nat→Unit→Prop,J=fun i _=>((c::m).take i).all Gq=true:=⟨_,rfl⟩
     refine aU.cnt ah (c::m).length (fun i _=>⟨[(24,.int .i64 i),(23,.int .i64 (c::m).length),(0,.str (bs (c::m))),(2,.bool false)],[]⟩) J () (by rw[hJ]; rfl) (by simp) fun i _ hi hj=>?_
     clear e hdl hd hc hc'
     generalize c::m=l1 at *
     have hw:=wrap64 (n:=(i:Int)+1) (by omega) (by omega)
     by_cases h1:i<l1.length
     ·by_cases hd' : Gq l1[i]=true
      ·obtain⟨k1,k2⟩:=aeS.1 hd'
       simp +contextual [h1,hw,k1,k2,UInt8.not_lt.2 k1,UInt8.not_lt.2 k2]
       refine⟨(),?_⟩
       subst hJ
       show (l1.take (i+1)).all Gq=true
       rw[asl h1 hj]; exact hd'
      ·have k1:∃ x,x∈l1∧Gq x=false:=⟨_,List.getElem_mem h1,by simpa using hd'⟩
       have k2:48≤l1[i]→¬ l1[i]≤57:=fun h h'=>hd' (aeS.2 ⟨h,h'⟩)
       simp +contextual [h1,hw,k1,k2]
     ·have:i=l1.length:=by omega
      subst hJ
      have hj1:(l1.take i).all Gq=true:=hj
      simp only[this,List.take_length,List.all_eq_true] at hj1
      simp +contextual [h1]
      exact hj1
theorem amD {a:S} (h:yg a=true):∃ l,a=bs l∧0<l.length:=by
 refine⟨a.data.toList,(apQ a).symm,?_⟩
 rcases Nat.eq_zero_or_pos a.data.toList.length with h0|h0
 ·have:a.data.toList=[]:=List.eq_nil_of_length_eq_zero h0
  simp[yg,qW,neg,this] at h
 ·exact h0
theorem agF (a b:S):Ret prog M.zl [.str a,.str b] (.tup [.int .i64 (if yg a&&yg b then dZ (eu a b) else 0),.int .i64 (if yg a&&yg b then 0 else 1)]):=by
 refine Ret.go ah avS (by simp) fun hb w0 F0 hG=>?_
 simp
 refine ak.ret (IG a) ?_
 cases ha:yg a
 ·simp
 ·simp
  refine ak.ret (IG b) ?_
  cases hb' : yg b
  ·simp
  ·obtain⟨l,rfl,hl⟩:=amD ha
   obtain⟨m,rfl,hm⟩:=amD hb'
   simp
   refine ak.ret (aoj l hl) ?_
   simp
   refine ak.ret (aoj m hm) ?_
   unfold eu
   cases neg (bs l)<;>cases neg (bs m)<;>simp
   ·refine ak.ret (ar3 _ _) ?_
    simp
   ·refine ak.ret (ar3 _ _) ?_
    simp
def aeL (a b:S):Int:=if yg a&&yg b then dZ (eu a b) else 0
theorem am2 (a b:S):Ret prog M.Jf [.str a,.str b] (.int .i64 (aeL a b)):=by
 refine Ret.go ah ant (by simp) fun hb w0 F0 hG=>?_
 simp
 refine ak.ret (agF a b) ?_
 simp[aeL]
theorem afw (a b:S):Ret prog M.TQ [.str a,.str b] (.int .i64 (aeL a b)):=by
 refine Ret.go ah aC4 (by simp) fun hb w0 F0 hG=>?_
 simp
 refine ak.ret (agF a b) ?_
 simp[aeL]
end Go.Proofs.YtngjnfbngheccaaGreatDoor.Pv
namespace Go.Proofs.YtngjnfbngheccaaGreatDoor.Pv
open Go Go.Tidy
section
variable {α:Type} {g:α→α→Ordering} {a b:List α} {i:Nat}
theorem mg (h1:i<a.length) (h2:i<b.length):dn g (a.drop i) (b.drop i)=(g a[i] b[i]).then (dn g (a.drop (i+1)) (b.drop (i+1))):=by
 rw[List.drop_eq_getElem_cons h1,List.drop_eq_getElem_cons h2]; rfl
theorem ahU (h1:i<a.length) (h2:b.length≤i):dn g (a.drop i) (b.drop i)=.gt:=by
 rw[List.drop_eq_getElem_cons h1,List.drop_eq_nil_of_le h2]; rfl
theorem aOV (h1:a.length≤i) (h2:i≤b.length) (h3:i≤a.length):dn g (a.drop i) (b.drop i)=compare a.length b.length:=by
 rw[List.drop_eq_nil_of_le h1]
 by_cases h:i<b.length
 ·rw[List.drop_eq_getElem_cons h,Zu.2 (by omega)]; rfl
 ·rw[List.drop_eq_nil_of_le (by omega),Zh.2 (by omega)]; rfl
theorem vV (h1:i≤a.length) (h2:i≤b.length) (h:a.length≤i∨b.length≤i):dn g (a.drop i) (b.drop i)=compare a.length b.length:=by
 by_cases ha:a.length≤i
 ·exact aOV ha h2 h1
 ·rw[ahU (by omega) (by omega),axF.2 (by omega)]
end
theorem air (a b:Nat):compare (a:Int) (b:Int)=compare a b:=(QG a b).symm
theorem lG {p q:Ordering} (h:p≠.eq):p.then q=p:=by cases p<;>simp_all [Ordering.then]
theorem zw {p q:Ordering} (h:p=.eq):p.then q=q:=by subst h; rfl
theorem amG (a b:List S):Ret prog M.aar [.vec 1 false (a.map encStr),.vec 1 false (b.map encStr)] (.int .i64 (dZ (dn lq a b))):=by
 refine Ret.go ah aAT (by simp) fun hb w0 F0 hG=>?_
 simp only[ig,jh,List.length_map,LIM,and_true] at hb
 simp +contextual
 obtain⟨J,hJ⟩ : ∃ J:Nat→Unit→Prop,J=fun i _=>i≤b.length∧dn lq a b=dn lq (a.drop i) (b.drop i):=⟨_,rfl⟩
 refine aU.cnt ah a.length (fun i _=>⟨[(5,.int .i64 i),(0,.vec 1 false (a.map encStr)),(1,.vec 1 false (b.map encStr))],[]⟩) J () (by simp[hJ]) (by simp) fun i _ hi hj=>?_
 have hw:=wrap64 (n:=(i:Int)+1) (by omega) (by omega)
 have hj' : i≤b.length∧dn lq a b=dn lq (a.drop i) (b.drop i):=by subst hJ; exact hj
 by_cases h1:i<a.length
 ·by_cases h2:i<b.length
  ·simp +contextual [h1,h2,hw]
   intro v
   refine aH.ret (anr a[i] b[i]) ?_
   simp +contextual [hw,h1,jd]
   rw[hj'.2,mg h1 h2]
   refine⟨fun h=>by rw[lG h],fun h=>⟨(),?_⟩⟩
   subst hJ
   exact⟨h2,by rw[hj'.2,mg h1 h2,zw h]⟩
  ·simp +contextual [h1,h2]
   refine ak.ret (uM _ _) ?_
   simp +contextual
   rw[air,hj'.2,vV hi hj'.1 (by omega)]
 ·simp +contextual [h1]
  refine ak.ret (uM _ _) ?_
  simp +contextual
  rw[air,hj'.2,vV hi hj'.1 (by omega)]
end Go.Proofs.YtngjnfbngheccaaGreatDoor.Pv
namespace Go.Proofs.YtngjnfbngheccaaGreatDoor.Pv
open Go Go.Tidy
theorem aji (a:Int):Ret prog M.UW [.int .i64 a] (.bool false):=by
 refine Ret.go ah avG (by simp) fun hb w0 F0 hG=>?_
 simp
theorem XW (a:S):Ret prog M.pq [.str a] (.bool false):=by
 refine Ret.go ah aeX (by simp) fun hb w0 F0 hG=>?_
 simp[uf.2]
theorem aga (a b:Int):Ret prog M.L9 [.int .i64 a,.int .i64 b] (.int .i64 (dZ (compare a b))):=by
 refine Ret.go ah aqP (by simp) fun hb w0 F0 hG=>?_
 simp
 refine ak.ret (aji a) ?_
 simp
 refine ak.ret (aji b) ?_
 simp +contextual
 refine⟨fun h=>by rw[ap7.2 h]; rfl,fun h=>⟨fun h'=>by rw[ax1.2 h']; rfl,fun h'=>by rw[adT.2 (by omega)]; rfl⟩⟩
theorem alY (a b:S):Ret prog M.vW [.str a,.str b] (.int .i64 (dZ (lq a b))):=by
 refine Ret.go ah abh (by simp) fun hb w0 F0 hG=>?_
 simp
 refine ak.ret (XW a) ?_
 simp
 refine ak.ret (XW b) ?_
 simp +contextual [lq]
theorem ZA (a b:List S):Ret prog M.pz [.vec 1 false (a.map encStr),.vec 1 false (b.map encStr)] (.int .i64 (dZ (dn lq a b))):=by
 refine Ret.go ah Zy (by simp) fun hb w0 F0 hG=>?_
 simp only[ig,jh,List.length_map,LIM,and_true] at hb
 simp
 obtain⟨J,hJ⟩ : ∃ J:Nat→Unit→Prop,J=fun i _=>i≤b.length∧dn lq a b=dn lq (a.drop i) (b.drop i):=⟨_,rfl⟩
 refine aU.cnt ah a.length (fun i _=>⟨[(11,.int .i64 i),(10,.int .i64 a.length),(9,.vec 1 false (a.map encStr)),(0,.vec 1 false (a.map encStr)),(1,.vec 1 false (b.map encStr))],[]⟩) J () (by simp[hJ]) (by simp) fun i _ hi hj=>?_
 have hw:=wrap64 (n:=(i:Int)+1) (by omega) (by omega)
 have hj' : i≤b.length∧dn lq a b=dn lq (a.drop i) (b.drop i):=by subst hJ; exact hj
 by_cases h1:i<a.length
 ·by_cases h2:i<b.length
  ·have h2' : ¬ b.length≤i:=by omega
   simp[h1,h2,h2',hw]
   refine ak.ret (alY a[i] b[i]) ?_
   simp[hw,h1,h2,jd]
   rw[hj'.2,mg h1 h2]
   refine⟨fun h=>by rw[lG h],fun h=>⟨(),?_⟩⟩
   subst hJ
   exact⟨h2,by rw[hj'.2,mg h1 h2,zw h]⟩
  ·have h2' : b.length≤i:=by omega
   simp[h1,h2,h2']
   rw[hj'.2,ahU h1 h2']; rfl
 ·simp[h1]
  rw[hj'.2,vV hi hj'.1 (by omega)]
  refine⟨fun h=>by rw[Zu.2 (by omega)]; rfl,fun h=>by rw[Zh.2 (by omega)]; rfl⟩
theorem agk (fid:Nat) (g:Span→Span→Ordering) (a b:List Span) (hf:∀ x∈a,∀ y∈b,Ret prog fid [.agg (dw x),.agg (dw y)] (.int .i64 (dZ (g x y)))):Ret prog M.qB [.vec 2 false (a.map dw),.vec 2 false (b.map dw),.fn fid [] []] (.int .i64 (dZ (dn g a b))):=by
 refine Ret.go ah UJ (by simp) fun hb w0 F0 hG=>?_
 simp only[ig,jh,List.length_map,LIM,and_true] at hb
 simp
 obtain⟨J,hJ⟩ : ∃ J:Nat→Unit→Prop,J=fun i _=>i≤b.length∧dn g a b=dn g (a.drop i) (b.drop i):=⟨_,rfl⟩
 refine aU.cnt ah a.length (fun i _=>⟨[(13,.int .i64 i),(12,.int .i64 a.length),(11,.vec 2 false (a.map dw)),(0,.vec 2 false (a.map dw)),(1,.vec 2 false (b.map dw)),(2,.fn fid [] [])],[]⟩) J () (by simp[hJ]) (by simp) fun i _ hi hj=>?_
 have hw:=wrap64 (n:=(i:Int)+1) (by omega) (by omega)
 have hj' : i≤b.length∧dn g a b=dn g (a.drop i) (b.drop i):=by subst hJ; exact hj
 by_cases h1:i<a.length
 ·by_cases h2:i<b.length
  ·have h2' : ¬ b.length≤i:=by omega
   simp[h1,h2,h2',hw]
   intros
   refine ak.ret (hf _ (List.getElem_mem h1) _ (List.getElem_mem h2)) ?_
   simp[hw,h1,h2,jd]
   rw[hj'.2,mg h1 h2]
   refine⟨fun h=>by rw[lG h],fun h=>⟨(),?_⟩⟩
   subst hJ
   exact⟨h2,by rw[hj'.2,mg h1 h2,zw h]⟩
  ·have h2' : b.length≤i:=by omega
   simp[h1,h2,h2']
   rw[hj'.2,ahU h1 h2']; rfl
 ·simp[h1]
  rw[hj'.2,vV hi hj'.1 (by omega)]
  refine⟨fun h=>by rw[Zu.2 (by omega)]; rfl,fun h=>by rw[Zh.2 (by omega)]; rfl⟩
theorem ahr (fid:Nat) (g:Arr→Arr→Ordering) (a b:List Arr) (hf:∀ x∈a,∀ y∈b,Ret prog fid [.agg (cA x),.agg (cA y)] (.int .i64 (dZ (g x y)))):Ret prog M.qX [.vec 11 false (a.map dz),.vec 11 false (b.map dz),.fn fid [] []] (.int .i64 (dZ (dn g a b))):=by
 refine Ret.go ah VO (by simp) fun hb w0 F0 hG=>?_
 simp only[ig,jh,List.length_map,LIM,and_true] at hb
 simp
 obtain⟨J,hJ⟩ : ∃ J:Nat→Unit→Prop,J=fun i _=>i≤b.length∧dn g a b=dn g (a.drop i) (b.drop i):=⟨_,rfl⟩
 refine aU.cnt ah a.length (fun i _=>⟨[(13,.int .i64 i),(12,.int .i64 a.length),(11,.vec 11 false (a.map dz)),(0,.vec 11 false (a.map dz)),(1,.vec 11 false (b.map dz)),(2,.fn fid [] [])],[]⟩) J () (by simp[hJ]) (by simp) fun i _ hi hj=>?_
 have hw:=wrap64 (n:=(i:Int)+1) (by omega) (by omega)
 have hj' : i≤b.length∧dn g a b=dn g (a.drop i) (b.drop i):=by subst hJ; exact hj
 by_cases h1:i<a.length
 ·by_cases h2:i<b.length
  ·have h2' : ¬ b.length≤i:=by omega
   simp[h1,h2,h2',hw]
   intros
   refine ak.ret (hf _ (List.getElem_mem h1) _ (List.getElem_mem h2)) ?_
   simp[hw,h1,h2,jd]
   rw[hj'.2,mg h1 h2]
   refine⟨fun h=>by rw[lG h],fun h=>⟨(),?_⟩⟩
   subst hJ
   exact⟨h2,by rw[hj'.2,mg h1 h2,zw h]⟩
  ·have h2' : b.length≤i:=by omega
   simp[h1,h2,h2']
   rw[hj'.2,ahU h1 h2']; rfl
 ·simp[h1]
  rw[hj'.2,vV hi hj'.1 (by omega)]
  refine⟨fun h=>by rw[Zu.2 (by omega)]; rfl,fun h=>by rw[Zh.2 (by omega)]; rfl⟩
theorem ahs (fid:Nat) (g:Ob→Ob→Ordering) (a b:List Ob) (hf:∀ x∈a,∀ y∈b,Ret prog fid [.agg (cO x),.agg (cO y)] (.int .i64 (dZ (g x y)))):Ret prog M.rU [.vec 12 false (a.map au),.vec 12 false (b.map au),.fn fid [] []] (.int .i64 (dZ (dn g a b))):=by
 refine Ret.go ah Yt (by simp) fun hb w0 F0 hG=>?_
 simp only[ig,jh,List.length_map,LIM,and_true] at hb
 simp
 obtain⟨J,hJ⟩ : ∃ J:Nat→Unit→Prop,J=fun i _=>i≤b.length∧dn g a b=dn g (a.drop i) (b.drop i):=⟨_,rfl⟩
 refine aU.cnt ah a.length (fun i _=>⟨[(13,.int .i64 i),(12,.int .i64 a.length),(11,.vec 12 false (a.map au)),(0,.vec 12 false (a.map au)),(1,.vec 12 false (b.map au)),(2,.fn fid [] [])],[]⟩) J () (by simp[hJ]) (by simp) fun i _ hi hj=>?_
 have hw:=wrap64 (n:=(i:Int)+1) (by omega) (by omega)
 have hj' : i≤b.length∧dn g a b=dn g (a.drop i) (b.drop i):=by subst hJ; exact hj
 by_cases h1:i<a.length
 ·by_cases h2:i<b.length
  ·have h2' : ¬ b.length≤i:=by omega
   simp[h1,h2,h2',hw]
   intros
   refine ak.ret (hf _ (List.getElem_mem h1) _ (List.getElem_mem h2)) ?_
   simp[hw,h1,h2,jd]
   rw[hj'.2,mg h1 h2]
   refine⟨fun h=>by rw[lG h],fun h=>⟨(),?_⟩⟩
   subst hJ
   exact⟨h2,by rw[hj'.2,mg h1 h2,zw h]⟩
  ·have h2' : b.length≤i:=by omega
   simp[h1,h2,h2']
   rw[hj'.2,ahU h1 h2']; rfl
 ·simp[h1]
  rw[hj'.2,vV hi hj'.1 (by omega)]
  refine⟨fun h=>by rw[Zu.2 (by omega)]; rfl,fun h=>by rw[Zh.2 (by omega)]; rfl⟩
theorem agy (fid:Nat) (g:Ty→Ty→Ordering) (a b:List Ty) (hf:∀ x∈a,∀ y∈b,Ret prog fid [.agg (cT x),.agg (cT y)] (.int .i64 (dZ (g x y)))):Ret prog M.BG [.vec 9 false (a.map fq),.vec 9 false (b.map fq),.fn fid [] []] (.int .i64 (dZ (dn g a b))):=by
 refine Ret.go ah agD (by simp) fun hb w0 F0 hG=>?_
 simp only[ig,jh,List.length_map,LIM,and_true] at hb
 simp
 obtain⟨J,hJ⟩ : ∃ J:Nat→Unit→Prop,J=fun i _=>i≤b.length∧dn g a b=dn g (a.drop i) (b.drop i):=⟨_,rfl⟩
 refine aU.cnt ah a.length (fun i _=>⟨[(13,.int .i64 i),(12,.int .i64 a.length),(11,.vec 9 false (a.map fq)),(0,.vec 9 false (a.map fq)),(1,.vec 9 false (b.map fq)),(2,.fn fid [] [])],[]⟩) J () (by simp[hJ]) (by simp) fun i _ hi hj=>?_
 have hw:=wrap64 (n:=(i:Int)+1) (by omega) (by omega)
 have hj' : i≤b.length∧dn g a b=dn g (a.drop i) (b.drop i):=by subst hJ; exact hj
 by_cases h1:i<a.length
 ·by_cases h2:i<b.length
  ·have h2' : ¬ b.length≤i:=by omega
   simp[h1,h2,h2',hw]
   intros
   refine ak.ret (hf _ (List.getElem_mem h1) _ (List.getElem_mem h2)) ?_
   simp[hw,h1,h2,jd]
   rw[hj'.2,mg h1 h2]
   refine⟨fun h=>by rw[lG h],fun h=>⟨(),?_⟩⟩
   subst hJ
   exact⟨h2,by rw[hj'.2,mg h1 h2,zw h]⟩
  ·have h2' : b.length≤i:=by omega
   simp[h1,h2,h2']
   rw[hj'.2,ahU h1 h2']; rfl
 ·simp[h1]
  rw[hj'.2,vV hi hj'.1 (by omega)]
  refine⟨fun h=>by rw[Zu.2 (by omega)]; rfl,fun h=>by rw[Zh.2 (by omega)]; rfl⟩
theorem agv (fid:Nat) (g:Bool→Bool→Ordering) (a b:List Bool) (hf:∀ x∈a,∀ y∈b,Ret prog fid [.bool x,.bool y] (.int .i64 (dZ (g x y)))):Ret prog M.Bf [.vec 1 false (a.map lU),.vec 1 false (b.map lU),.fn fid [] []] (.int .i64 (dZ (dn g a b))):=by
 refine Ret.go ah agS (by simp) fun hb w0 F0 hG=>?_
 simp only[ig,jh,List.length_map,LIM,and_true] at hb
 simp
 obtain⟨J,hJ⟩ : ∃ J:Nat→Unit→Prop,J=fun i _=>i≤b.length∧dn g a b=dn g (a.drop i) (b.drop i):=⟨_,rfl⟩
 refine aU.cnt ah a.length (fun i _=>⟨[(13,.int .i64 i),(12,.int .i64 a.length),(11,.vec 1 false (a.map lU)),(0,.vec 1 false (a.map lU)),(1,.vec 1 false (b.map lU)),(2,.fn fid [] [])],[]⟩) J () (by simp[hJ]) (by simp) fun i _ hi hj=>?_
 have hw:=wrap64 (n:=(i:Int)+1) (by omega) (by omega)
 have hj' : i≤b.length∧dn g a b=dn g (a.drop i) (b.drop i):=by subst hJ; exact hj
 by_cases h1:i<a.length
 ·by_cases h2:i<b.length
  ·have h2' : ¬ b.length≤i:=by omega
   simp[h1,h2,h2',hw]
   intros
   refine ak.ret (hf _ (List.getElem_mem h1) _ (List.getElem_mem h2)) ?_
   simp[hw,h1,h2,jd]
   rw[hj'.2,mg h1 h2]
   refine⟨fun h=>by rw[lG h],fun h=>⟨(),?_⟩⟩
   subst hJ
   exact⟨h2,by rw[hj'.2,mg h1 h2,zw h]⟩
  ·have h2' : b.length≤i:=by omega
   simp[h1,h2,h2']
   rw[hj'.2,ahU h1 h2']; rfl
 ·simp[h1]
  rw[hj'.2,vV hi hj'.1 (by omega)]
  refine⟨fun h=>by rw[Zu.2 (by omega)]; rfl,fun h=>by rw[Zh.2 (by omega)]; rfl⟩
end Go.Proofs.YtngjnfbngheccaaGreatDoor.Pv
namespace Go.Proofs.YtngjnfbngheccaaGreatDoor.Pv
open Go Go.Tidy
open Classical in
noncomputable def eqv {α:Type} (a b:α):Bool:=decide (a=b)
theorem lg {α:Type} {a b:α} (h:a=b):eqv a b=true:=by simp[eqv,h]
theorem gQ {α:Type} {a b:α} (h:a≠b):eqv a b=false:=by simp[eqv,h]
theorem apZ {α:Type} {a b:α}:eqv a b=true↔a=b:=by simp[eqv]
theorem agZ {α:Type} {a b:List α} {i:Nat} (h1:i<a.length) (h2:i<b.length) (h:a.take i=b.take i) (he:a[i]=b[i]):a.take (i+1)=b.take (i+1):=by
 rw[List.take_add_one,List.take_add_one,h,List.getElem?_eq_getElem h1,List.getElem?_eq_getElem h2,he]
theorem aqp {α:Type} {a b:List α} {i:Nat} (h1:i<a.length) (h2:i<b.length) (he:a[i]≠b[i]):a≠b:=fun h=>by subst h; exact he rfl
theorem af3 (a b:List S):Ret prog M.xq [.vec 1 false (a.map encStr),.vec 1 false (b.map encStr)] (.bool (eqv a b)):=by
 refine Ret.go ah afX (by simp) fun hb w0 F0 hG=>?_
 simp only[ig,jh,List.length_map,LIM,and_true] at hb
 by_cases hl:a.length=b.length
 ·simp[hl]
  obtain⟨J,hJ⟩ : ∃ J:Nat→Unit→Prop,J=fun i _=>a.take i=b.take i:=⟨_,rfl⟩
  refine aU.cnt ah a.length (fun i _=>⟨[(5,.int .i64 i),(0,.vec 1 false (a.map encStr)),(1,.vec 1 false (b.map encStr)),(4,.bool false)],[]⟩) J () (by simp[hJ]) (by simp) fun i _ hi hj=>?_
  have hw:=wrap64 (n:=(i:Int)+1) (by omega) (by omega)
  have hj' : a.take i=b.take i:=by subst hJ; exact hj
  by_cases h1:i<a.length
  ·have h2:i<b.length:=by omega
   simp[h1,h2,hl ▸ h1,hw]
   exact⟨fun h=>gQ (aqp h1 h2 (fun e=>by rw[uf.2 e] at h; cases h)),fun h=>⟨(),by subst hJ; exact agZ h1 h2 hj' (uf.1 h)⟩⟩
  ·have e:i=a.length:=by omega
   subst e
   rw[List.take_length,hl,List.take_length] at hj'
   simp[hl]
   exact lg hj'
 ·have:a≠b:=fun h=>hl (by rw[h])
  have hl' : ¬ ((a.length:Int)=b.length):=by omega
  simp[hl',gQ this]
theorem auc (a b:List Bool):Ret prog M.abl [.vec 1 false (a.map lU),.vec 1 false (b.map lU)] (.bool (eqv a b)):=by
 refine Ret.go ah avu (by simp) fun hb w0 F0 hG=>?_
 simp only[ig,jh,List.length_map,LIM,and_true] at hb
 by_cases hl:a.length=b.length
 ·simp[hl]
  obtain⟨J,hJ⟩ : ∃ J:Nat→Unit→Prop,J=fun i _=>a.take i=b.take i:=⟨_,rfl⟩
  refine aU.cnt ah a.length (fun i _=>⟨[(5,.int .i64 i),(0,.vec 1 false (a.map lU)),(1,.vec 1 false (b.map lU)),(4,.bool false)],[]⟩) J () (by simp[hJ]) (by simp) fun i _ hi hj=>?_
  have hw:=wrap64 (n:=(i:Int)+1) (by omega) (by omega)
  have hj' : a.take i=b.take i:=by subst hJ; exact hj
  by_cases h1:i<a.length
  ·have h2:i<b.length:=by omega
   simp[h1,h2,hl ▸ h1,hw]
   exact⟨fun h=>gQ (aqp h1 h2 h),fun h=>⟨(),by subst hJ; exact agZ h1 h2 hj' h⟩⟩
  ·have e:i=a.length:=by omega
   subst e
   rw[List.take_length,hl,List.take_length] at hj'
   simp[hl]
   exact lg hj'
 ·have:a≠b:=fun h=>hl (by rw[h])
  have hl' : ¬ ((a.length:Int)=b.length):=by omega
  simp[hl',gQ this]
theorem avl (a b:List Span) (hf:∀ x∈a,∀ y∈b,Ret prog M.Dw [.agg (dw x),.agg (dw y)] (.bool (eqv x y))):Ret prog M.JM [.vec 2 false (a.map dw),.vec 2 false (b.map dw)] (.bool (eqv a b)):=by
 refine Ret.go ah aiI (by simp) fun hb w0 F0 hG=>?_
 simp only[ig,jh,List.length_map,LIM,and_true] at hb
 by_cases hl:a.length=b.length
 ·simp[hl]
  obtain⟨J,hJ⟩ : ∃ J:Nat→Unit→Prop,J=fun i _=>a.take i=b.take i:=⟨_,rfl⟩
  refine aU.cnt ah a.length (fun i _=>⟨[(5,.int .i64 i),(0,.vec 2 false (a.map dw)),(1,.vec 2 false (b.map dw)),(4,.bool false)],[]⟩) J () (by simp[hJ]) (by simp) fun i _ hi hj=>?_
  have hw:=wrap64 (n:=(i:Int)+1) (by omega) (by omega)
  have hj' : a.take i=b.take i:=by subst hJ; exact hj
  by_cases h1:i<a.length
  ·have h2:i<b.length:=by omega
   simp[h1,h2,hl ▸ h1,hw]
   intro v
   refine aH.ret (hf _ (List.getElem_mem h1) _ (List.getElem_mem h2)) ?_
   simp[h1,h2,hl ▸ h1,hw]
   exact⟨fun h=>gQ (aqp h1 h2 (fun e=>by rw[lg e] at h; cases h)),fun h=>⟨(),by subst hJ; exact agZ h1 h2 hj' (apZ.1 h)⟩⟩
  ·have e:i=a.length:=by omega
   subst e
   rw[List.take_length,hl,List.take_length] at hj'
   simp[hl]
   exact lg hj'
 ·have:a≠b:=fun h=>hl (by rw[h])
  have hl' : ¬ ((a.length:Int)=b.length):=by omega
  simp[hl',gQ this]
theorem axv (a b:List Arr) (hf:∀ x∈a,∀ y∈b,Ret prog M.ZY [.agg (cA x),.agg (cA y)] (.bool (eqv x y))):Ret prog M.OQ [.vec 11 false (a.map dz),.vec 11 false (b.map dz)] (.bool (eqv a b)):=by
 refine Ret.go ah alg (by simp) fun hb w0 F0 hG=>?_
 simp only[ig,jh,List.length_map,LIM,and_true] at hb
 by_cases hl:a.length=b.length
 ·simp[hl]
  obtain⟨J,hJ⟩ : ∃ J:Nat→Unit→Prop,J=fun i _=>a.take i=b.take i:=⟨_,rfl⟩
  refine aU.cnt ah a.length (fun i _=>⟨[(5,.int .i64 i),(0,.vec 11 false (a.map dz)),(1,.vec 11 false (b.map dz)),(4,.bool false)],[]⟩) J () (by simp[hJ]) (by simp) fun i _ hi hj=>?_
  have hw:=wrap64 (n:=(i:Int)+1) (by omega) (by omega)
  have hj' : a.take i=b.take i:=by subst hJ; exact hj
  by_cases h1:i<a.length
  ·have h2:i<b.length:=by omega
   simp[h1,h2,hl ▸ h1,hw]
   intro v
   refine aH.ret (hf _ (List.getElem_mem h1) _ (List.getElem_mem h2)) ?_
   simp[h1,h2,hl ▸ h1,hw]
   exact⟨fun h=>gQ (aqp h1 h2 (fun e=>by rw[lg e] at h; cases h)),fun h=>⟨(),by subst hJ; exact agZ h1 h2 hj' (apZ.1 h)⟩⟩
  ·have e:i=a.length:=by omega
   subst e
   rw[List.take_length,hl,List.take_length] at hj'
   simp[hl]
   exact lg hj'
 ·have:a≠b:=fun h=>hl (by rw[h])
  have hl' : ¬ ((a.length:Int)=b.length):=by omega
  simp[hl',gQ this]
theorem awx (a b:List Ob) (hf:∀ x∈a,∀ y∈b,Ret prog M.aaq [.agg (cO x),.agg (cO y)] (.bool (eqv x y))):Ret prog M.Oz [.vec 12 false (a.map au),.vec 12 false (b.map au)] (.bool (eqv a b)):=by
 refine Ret.go ah aj4 (by simp) fun hb w0 F0 hG=>?_
 simp only[ig,jh,List.length_map,LIM,and_true] at hb
 by_cases hl:a.length=b.length
 ·simp[hl]
  obtain⟨J,hJ⟩ : ∃ J:Nat→Unit→Prop,J=fun i _=>a.take i=b.take i:=⟨_,rfl⟩
  refine aU.cnt ah a.length (fun i _=>⟨[(5,.int .i64 i),(0,.vec 12 false (a.map au)),(1,.vec 12 false (b.map au)),(4,.bool false)],[]⟩) J () (by simp[hJ]) (by simp) fun i _ hi hj=>?_
  have hw:=wrap64 (n:=(i:Int)+1) (by omega) (by omega)
  have hj' : a.take i=b.take i:=by subst hJ; exact hj
  by_cases h1:i<a.length
  ·have h2:i<b.length:=by omega
   simp[h1,h2,hl ▸ h1,hw]
   intro v
   refine aH.ret (hf _ (List.getElem_mem h1) _ (List.getElem_mem h2)) ?_
   simp[h1,h2,hl ▸ h1,hw]
   exact⟨fun h=>gQ (aqp h1 h2 (fun e=>by rw[lg e] at h; cases h)),fun h=>⟨(),by subst hJ; exact agZ h1 h2 hj' (apZ.1 h)⟩⟩
  ·have e:i=a.length:=by omega
   subst e
   rw[List.take_length,hl,List.take_length] at hj'
   simp[hl]
   exact lg hj'
 ·have:a≠b:=fun h=>hl (by rw[h])
  have hl' : ¬ ((a.length:Int)=b.length):=by omega
  simp[hl',gQ this]
theorem avO (a b:List Ty) (hf:∀ x∈a,∀ y∈b,Ret prog M.mG [.agg (cT x),.agg (cT y)] (.bool (eqv x y))):Ret prog M.acg [.vec 9 false (a.map fq),.vec 9 false (b.map fq)] (.bool (eqv a b)):=by
 refine Ret.go ah avt (by simp) fun hb w0 F0 hG=>?_
 simp only[ig,jh,List.length_map,LIM,and_true] at hb
 by_cases hl:a.length=b.length
 ·simp[hl]
  obtain⟨J,hJ⟩ : ∃ J:Nat→Unit→Prop,J=fun i _=>a.take i=b.take i:=⟨_,rfl⟩
  refine aU.cnt ah a.length (fun i _=>⟨[(5,.int .i64 i),(0,.vec 9 false (a.map fq)),(1,.vec 9 false (b.map fq)),(4,.bool false)],[]⟩) J () (by simp[hJ]) (by simp) fun i _ hi hj=>?_
  have hw:=wrap64 (n:=(i:Int)+1) (by omega) (by omega)
  have hj' : a.take i=b.take i:=by subst hJ; exact hj
  by_cases h1:i<a.length
  ·have h2:i<b.length:=by omega
   simp[h1,h2,hl ▸ h1,hw]
   intro v
   refine aH.ret (hf _ (List.getElem_mem h1) _ (List.getElem_mem h2)) ?_
   simp[h1,h2,hl ▸ h1,hw]
   exact⟨fun h=>gQ (aqp h1 h2 (fun e=>by rw[lg e] at h; cases h)),fun h=>⟨(),by subst hJ; exact agZ h1 h2 hj' (apZ.1 h)⟩⟩
  ·have e:i=a.length:=by omega
   subst e
   rw[List.take_length,hl,List.take_length] at hj'
   simp[hl]
   exact lg hj'
 ·have:a≠b:=fun h=>hl (by rw[h])
  have hl' : ¬ ((a.length:Int)=b.length):=by omega
  simp[hl',gQ this]
theorem ax8 (a b:Span):Ret prog M.Dw [.agg (dw a),.agg (dw b)] (.bool (eqv a b)):=by
 refine Ret.go ah akE (by simp) fun hb w0 F0 hG=>?_
 obtain⟨a1,a2⟩:=a
 obtain⟨b1,b2⟩:=b
 by_cases hab:a1=b1∧a2=b2
 ·obtain⟨rfl,rfl⟩:=hab
  rw[lg rfl]
  simp[uf.2]
 ·rw[gQ (fun e=>hab (by cases e; exact⟨rfl,rfl⟩))]
  cases h1:sEq a1 b1
  ·simp[h1]
  ·cases h2:sEq a2 b2
   ·simp[h1,h2]
   ·exact absurd ⟨uf.1 h1,uf.1 h2⟩ hab
theorem aBY (a b:Arr) (hf:Ret prog M.mG [.agg (cT a.item),.agg (cT b.item)] (.bool (eqv a.item b.item))):Ret prog M.ZY [.agg (cA a),.agg (cA b)] (.bool (eqv a b)):=by
 refine Ret.go ah aC9 (by simp) fun hb w0 F0 hG=>?_
 by_cases hab:a=b
 ·subst hab
  rw[lg rfl]
  rw[lg rfl] at hf
  simp
  intros
  refine ak.ret hf ?_
  simp
 ·rw[gQ hab]
  by_cases h1:a.min=b.min
  ·by_cases h2:a.max=b.max
   ·have h3:a.item≠b.item:=fun h3=>hab (by rw[← a.eta,← b.eta,h1,h2,h3])
    rw[gQ h3] at hf
    simp[h1,h2]
    intros
    refine ak.ret hf ?_
    simp
   ·simp[h1,h2]
  ·simp[h1]
theorem aBU (a b:Ob) (hf:∀ x∈a.fields,∀ y∈b.fields,Ret prog M.mG [.agg (cT x),.agg (cT y)] (.bool (eqv x y))) (hr:Ret prog M.mG [.agg (cT a.rest),.agg (cT b.rest)] (.bool (eqv a.rest b.rest))):Ret prog M.aaq [.agg (cO a),.agg (cO b)] (.bool (eqv a b)):=by
 refine Ret.go ah aCY (by simp) fun hb w0 F0 hG=>?_
 simp
 intros
 refine ak.ret (af3 a.names b.names) ?_
 by_cases h1:a.names=b.names
 ·simp[lg h1]
  intros
  refine ak.ret (avO a.fields b.fields hf) ?_
  by_cases h2:a.fields=b.fields
  ·simp[lg h2]
   intros
   refine ak.ret (auc a.must b.must) ?_
   by_cases h3:a.must=b.must
   ·simp[lg h3]
    intros
    refine ak.ret hr ?_
    by_cases h4:a.rest=b.rest
    ·rw[lg (show a=b by rw[← a.eta,← b.eta,h1,h2,h3,h4])]
     simp[lg h4]
    ·rw[gQ (fun e=>h4 (by rw[e]):a≠b)]
     simp[gQ h4]
   ·rw[gQ (fun e=>h3 (by rw[e]):a≠b)]
    simp[gQ h3]
  ·rw[gQ (fun e=>h2 (by rw[e]):a≠b)]
   simp[gQ h2]
 ·rw[gQ (fun e=>h1 (by rw[e]):a≠b)]
  simp[gQ h1]
theorem Y8 {t:Ty} {a:Arr} (h:a∈t.arrays):SizeOf.sizeOf a.item<SizeOf.sizeOf t:=by
 obtain⟨_,_,_,_,_,_,_,az,os⟩:=t
 have:=List.sizeOf_lt_of_mem h
 cases a
 simp[Arr.item,Ty.arrays] at *
 omega
theorem QB {t:Ty} {o:Ob} {f:Ty} (h:o∈t.objects) (hf:f∈o.fields):SizeOf.sizeOf f<SizeOf.sizeOf t:=by
 obtain⟨_,_,_,_,_,_,_,az,os⟩:=t
 have:=List.sizeOf_lt_of_mem h
 have:=List.sizeOf_lt_of_mem hf
 cases o
 simp[Ob.fields,Ty.objects] at *
 omega
theorem OG {t:Ty} {o:Ob} (h:o∈t.objects):SizeOf.sizeOf o.rest<SizeOf.sizeOf t:=by
 obtain⟨_,_,_,_,_,_,_,az,os⟩:=t
 have:=List.sizeOf_lt_of_mem h
 cases o
 simp[Ob.rest,Ty.objects] at *
 omega
theorem axP (a:Ty):∀ b:Ty,Ret prog M.mG [.agg (cT a),.agg (cT b)] (.bool (eqv a b)):=by
 induction hn:SizeOf.sizeOf a using Nat.strongRecOn generalizing a with
 | _ n ih =>
 subst hn
 intro b
 refine Ret.go ah akI (by simp) fun hb w0 F0 hG=>?_
 by_cases h1:a.all=b.all∧a.null=b.null∧a.fls=b.fls∧a.tru=b.tru∧a.any=b.any
 ·obtain⟨h1,h2,h3,h4,h5⟩:=h1
  simp[h1,h2,h3,h4,h5]
  intros
  refine ak.ret (avl a.nums b.nums fun x _ y _=>ax8 x y) ?_
  by_cases k1:a.nums=b.nums
  ·simp[lg k1]
   intros
   refine ak.ret (af3 a.texts b.texts) ?_
   by_cases k2:a.texts=b.texts
   ·simp[lg k2]
    intros
    refine ak.ret (axv a.arrays b.arrays fun x hx y _=>aBY x y (ih _ (Y8 hx) _ rfl _)) ?_
    by_cases k3:a.arrays=b.arrays
    ·simp[lg k3]
     intros
     refine ak.ret (awx a.objects b.objects fun x hx y _=>aBU x y (fun u hu v _=>ih _ (QB hx hu) _ rfl _) (ih _ (OG hx) _ rfl _)) ?_
     by_cases k4:a.objects=b.objects
     ·rw[lg (show a=b by rw[← a.eta,← b.eta,h1,h2,h3,h4,h5,k1,k2,k3,k4])]
      simp[lg k4]
     ·rw[gQ (fun e=>k4 (by rw[e]):a≠b)]
      simp[gQ k4]
    ·rw[gQ (fun e=>k3 (by rw[e]):a≠b)]
     simp[gQ k3]
   ·rw[gQ (fun e=>k2 (by rw[e]):a≠b)]
    simp[gQ k2]
  ·rw[gQ (fun e=>k1 (by rw[e]):a≠b)]
   simp[gQ k1]
 ·have hne:a≠b:=fun e=>h1 (by rw[e]; simp)
  rw[gQ hne]
  by_cases k1:a.all=b.all
  ·by_cases k2:a.null=b.null
   ·by_cases k3:a.fls=b.fls
    ·by_cases k4:a.tru=b.tru
     ·have k5:¬ a.any=b.any:=fun k5=>h1 ⟨k1,k2,k3,k4,k5⟩
      simp[k1,k2,k3,k4,k5]
     ·simp[k1,k2,k3,k4]
    ·simp[k1,k2,k3]
   ·simp[k1,k2]
  ·simp[k1]
end Go.Proofs.YtngjnfbngheccaaGreatDoor.Pv
set_option maxRecDepth 100000
namespace Go.Proofs.YtngjnfbngheccaaGreatDoor.Pv
open Go Go.Tidy
def orI:List Int→Int
 | []=>0
 | x::xs=>if x=0 then orI xs else x
theorem aDA {xs:List Int} {i:Nat} (h:i<xs.length):orI (xs.drop i)=if xs[i]=0 then orI (xs.drop (i+1)) else xs[i]:=by
 rw[List.drop_eq_getElem_cons h]; rfl
def aGu (n:Int):List PV:=[.int .i64 n]
attribute [simp] aGu
theorem abw (xs:List Int):Ret prog M.zo [.vec 1 false (xs.map aGu)] (.int .i64 (orI xs)):=by
 refine Ret.go ah aoc (by simp) fun hb w0 F0 hG=>?_
 simp only[ig,jh,List.length_map,LIM,and_true] at hb
 simp
 obtain⟨J,hJ⟩ : ∃ J:Nat→Unit→Prop,J=fun i _=>orI xs=orI (xs.drop i):=⟨_,rfl⟩
 refine aU.cnt ah xs.length (fun i _=>⟨[(8,.int .i64 i),(7,.int .i64 xs.length),(6,.vec 1 false (xs.map aGu)),(3,.int .i64 0),(2,.int .i64 0)],[]⟩) J () (by simp[hJ]) (by simp) fun i _ hi hj=>?_
 have hw:=wrap64 (n:=(i:Int)+1) (by omega) (by omega)
 have hj' : orI xs=orI (xs.drop i):=by subst hJ; exact hj
 by_cases h1:i<xs.length
 ·simp[h1,hw]
  rw[hj',aDA h1]
  refine⟨fun h=>by rw[if_neg h],fun h=>⟨(),?_⟩⟩
  subst hJ
  show _=_
  rw[hj',aDA h1,if_pos h]
 ·simp[h1]
  rw[hj',List.drop_eq_nil_of_le (by omega)]; rfl
theorem aQr (p:Ordering) (l:List Int):orI (dZ p::l)=if p=.eq then orI l else dZ p:=by
 cases p<;>simp[orI]
theorem aMK (p q:Ordering):(if p=.eq then dZ q else dZ p)=dZ (p.then q):=by cases p<;>rfl
theorem ap6 (p:Ordering):orI [dZ p]=dZ p:=by cases p<;>rfl
theorem vK (p q:Ordering) (l:List Int) (h:orI l=dZ q):orI (dZ p::l)=dZ (p.then q):=by rw[aQr,h,aMK]
theorem Jc (a b:Bool):Ret prog M.r9 [.bool a,.bool b] (.int .i64 (dZ (l5 a b))):=by
 refine Ret.go ah amT (by simp) fun hb w0 F0 hG=>?_
 cases a<;>cases b<;>simp[l5]
theorem Jh (a b:Bool):Ret prog M.xG [.bool a,.bool b] (.int .i64 (dZ (l5 a b))):=by
 refine Ret.go ah aCw (by simp) fun hb w0 F0 hG=>?_
 cases a<;>cases b<;>simp[l5]
theorem aOa (a:S):sEq a ⟨#[]⟩=eU a:=by
 rw[Bool.eq_iff_iff,uf,yG]; rfl
attribute [simp] aOa
theorem fU {a:S} (h:fu a=true) (he:eU a=false):yg a=true:=by
 simpa[fu,he] using h
theorem anB (a b:S) (o:Ordering) (ha:fu a=true) (hb' : fu b=true):Ret prog M.Iy [.str a,.str b,.int .i64 (dZ o)] (.int .i64 (dZ (nI o a b))):=by
 refine Ret.go ah anv (by simp) fun hb w0 F0 hG=>?_
 unfold nI
 cases h1:sEq a b
 ·cases h2:eU a
  ·cases h3:eU b
   ·simp[h1,h2,h3]
    refine ak.ret (am2 a b) ?_
    simp[aeL,fU ha h2,fU hb' h3]
   ·simp[h1,h2,h3]
    cases o<;>simp[IntKind.wrap,IntKind.bits,IntKind.signed]
  ·simp[h1,h2]
 ·simp[h1]
theorem Ow {s:Span} (h:jo s=true):fu s.low=true∧fu s.high=true:=by
 simp[jo] at h; exact h.1
theorem aDv (a b:Span) (ha:jo a=true) (hb' : jo b=true):Ret prog M.Yj [.agg (dw a),.agg (dw b)] (.int .i64 (dZ (oH a b))):=by
 refine Ret.go ah ao6 (by simp) fun hb w0 F0 hG=>?_
 have a1:=Ow ha
 have b1:=Ow hb'
 simp
 intros
 refine aH.ret (anB a.low b.low .lt a1.1 b1.1) ?_
 simp
 refine aH.ret (anB a.high b.high .gt a1.2 b1.2) ?_
 simp
 refine aH.ret (by simp; exact abw [_,_]) ?_
 simp
 exact vK _ _ _ (ap6 _)
theorem aF6 (a b:Int) (ha : -1≤a) (hb' : -1≤b):Ret prog M.ahk [.int .i64 a,.int .i64 b] (.int .i64 (dZ (vk a b))):=by
 refine Ret.go ah aEN (by simp) fun hb w0 F0 hG=>?_
 unfold vk
 by_cases h1:a=b
 ·subst h1
  simp
  by_cases h:a<0<;>simp[h,adT.2]
 ·by_cases h2:a<0
  ·have:¬ b<0:=by omega
   simp[h1,h2,this]
  ·by_cases h3:b<0
   ·simp[h1,h2,h3]
   ·simp[h1,h2,h3]
    refine ak.ret (aga a b) ?_
    simp
theorem aqj (a b:Arr):yX a b=(compare a.min b.min).then ((vk a.max b.max).then (l8 a.item b.item)):=by
 cases a; cases b; simp only[yX]; rfl
theorem as3 (a b:Ob):oh a b=(dn lq a.names b.names).then ((dn l5 a.must b.must).then ((dn l8 a.fields b.fields).then (l8 a.rest b.rest))):=by
 cases a; cases b; simp only[oh,aEn]; rfl
theorem aEu (a b:Ty):l8 a b=(l5 a.all b.all).then ((l5 a.null b.null).then ((l5 a.fls b.fls).then ((l5 a.tru b.tru).then ((dn oH a.nums b.nums).then ((l5 a.any b.any).then ((dn lq a.texts b.texts).then ((dn yX a.arrays b.arrays).then (dn oh a.objects b.objects)))))))):=by
 cases a; cases b; simp only[l8,aEM,aEG]; rfl
set_option maxHeartbeats 4000000 in
theorem aq6 (a:Ty):∀ b:Ty,aj a=true→aj b=true→Ret prog M.za [.agg (cT a),.agg (cT b)] (.int .i64 (dZ (l8 a b))):=by
 induction hn:SizeOf.sizeOf a using Nat.strongRecOn generalizing a with
 | _ n ih =>
 subst hn
 intro b ha hb'
 obtain⟨-,-,-,-,a5,-,a7,a8⟩:=bN ha
 obtain⟨-,-,-,-,b5,-,b7,b8⟩:=bN hb'
 have hA:∀ x∈a.arrays,∀ y∈b.arrays,Ret prog M.ajR [.agg (cA x),.agg (cA y)] (.int .i64 (dZ (yX x y))):=fun x hx y hy=>by
  obtain⟨-,x2,-,x4,-⟩:=gY (a7 x hx)
  obtain⟨-,y2,-,y4,-⟩:=gY (b7 y hy)
  refine Ret.go ah aHs (by simp) fun hb w0 F0 hG=>?_
  simp (maxSteps:=10000000)
  intros
  refine aH.ret (aga x.min y.min) ?_
  simp (maxSteps:=10000000)
  refine aH.ret (aF6 x.max y.max x2 y2) ?_
  simp (maxSteps:=10000000)
  refine aH.ret (ih _ (Y8 hx) x.item rfl y.item x4 y4) ?_
  simp (maxSteps:=10000000)
  refine aH.ret (by simp; exact abw [_,_,_]) ?_
  simp (maxSteps:=10000000)
  rw[aqj]
  exact vK _ _ _ (vK _ _ _ (ap6 _))
 have hO:∀ x∈a.objects,∀ y∈b.objects,Ret prog M.ajE [.agg (cO x),.agg (cO y)] (.int .i64 (dZ (oh x y))):=fun x hx y hy=>by
  obtain⟨-,-,-,x4,x5,-⟩:=dH (a8 x hx)
  obtain⟨-,-,-,y4,y5,-⟩:=dH (b8 y hy)
  refine Ret.go ah aHO (by simp) fun hb w0 F0 hG=>?_
  simp (maxSteps:=10000000)
  intros
  refine aH.ret (ZA x.names y.names) ?_
  simp (maxSteps:=10000000)
  refine aH.ret (agv _ l5 x.must y.must fun u _ v _=>Jc u v) ?_
  simp (maxSteps:=10000000)
  refine aH.ret (agy _ l8 x.fields y.fields fun u hu v hv=>ih _ (QB hx hu) u rfl v (x5 u hu) (y5 v hv)) ?_
  simp (maxSteps:=10000000)
  refine aH.ret (ih _ (OG hx) x.rest rfl y.rest x4 y4) ?_
  simp (maxSteps:=10000000)
  refine aH.ret (by simp; exact abw [_,_,_,_]) ?_
  simp (maxSteps:=10000000)
  rw[as3]
  exact vK _ _ _ (vK _ _ _ (vK _ _ _ (ap6 _)))
 refine Ret.go ah arD (by simp) fun hb w0 F0 hG=>?_
 simp (maxSteps:=10000000)
 intros
 refine aH.ret (Jc a.all b.all) ?_
 simp (maxSteps:=10000000)
 refine aH.ret (Jc a.null b.null) ?_
 simp (maxSteps:=10000000)
 refine aH.ret (Jc a.fls b.fls) ?_
 simp (maxSteps:=10000000)
 refine aH.ret (Jc a.tru b.tru) ?_
 simp (maxSteps:=10000000)
 refine aH.ret (agk _ oH a.nums b.nums fun x hx y hy=>aDv x y (a5 x hx) (b5 y hy)) ?_
 simp (maxSteps:=10000000)
 refine aH.ret (Jc a.any b.any) ?_
 simp (maxSteps:=10000000)
 refine aH.ret (ZA a.texts b.texts) ?_
 simp (maxSteps:=10000000)
 refine aH.ret (ahr _ yX a.arrays b.arrays hA) ?_
 simp (maxSteps:=10000000)
 refine aH.ret (ahs _ oh a.objects b.objects hO) ?_
 simp (maxSteps:=10000000)
 refine aH.ret (by simp; exact abw [_,_,_,_,_,_,_,_,_]) ?_
 simp (maxSteps:=10000000)
 rw[aEu]
 exact vK _ _ _ (vK _ _ _ (vK _ _ _ (vK _ _ _ (vK _ _ _ (vK _ _ _ (vK _ _ _ (vK _ _ _ (ap6 _))))))))
theorem ah6 (a b:Ty) (ha:aj a=true) (hb' : aj b=true):Ret prog M.wH [.agg (cT a),.agg (cT b)] (.bool (jV a b)):=by
 refine Ret.go ah aoh (by simp) fun hb w0 F0 hG=>?_
 simp (maxSteps:=10000000)
 intros
 refine ak.ret (aq6 a b ha hb') ?_
 simp[jV]
 cases l8 a b<;>rfl
end Go.Proofs.YtngjnfbngheccaaGreatDoor.Pv
namespace Go.Proofs.YtngjnfbngheccaaGreatDoor.Pv
open Go Go.Tidy
theorem aw4 (s:S):Ret prog M.adU [.str s] (.bool (yg s)):=by
 obtain⟨l,rfl⟩ : ∃ l,s=bs l:=⟨_,(apQ s).symm⟩
 refine Ret.go ah aw8 (by simp) fun hb w0 F0 hG=>?_
 simp only[ig,jh,ag4,LIM,and_true] at hb
 simp
 refine bF.one ah ⟨[(0,.str (bs l)),(2,.bool false),(3,.str (bs (qW (bs l))))],[]⟩ ?_ ?_
 ·match l with
  | []=>simp +contextual [qW,neg]
  | c::m=>simp +contextual [qW,neg,agL]; omega
 ·have hdl:(qW (bs l)).length≤l.length:=by unfold qW; split<;>simp
  have hnum:yg (bs l)=((qW (bs l)).all Gq&&!(qW (bs l)).isEmpty&&((qW (bs l)).head? != some 48||l == [48])):=by unfold yg; simp
  rw[hnum]
  generalize qW (bs l)=d at *
  obtain⟨J,hJ⟩ : ∃ J:Nat→Unit→Prop,J=fun i _=>(d.take i).all Gq=true:=⟨_,rfl⟩
  simp
  refine aU.cnt ah d.length (fun i _=>⟨[(4,.int .i64 i),(3,.str (bs d)),(0,.str (bs l)),(2,.bool false)],[]⟩) J () (by rw[hJ]; rfl) (by simp) fun i _ hi hj=>?_
  have hw:=wrap64 (n:=(i:Int)+1) (by omega) (by omega)
  by_cases h1:i<d.length
  ·by_cases hd' : Gq d[i]=true
   ·obtain⟨k1,k2⟩:=aeS.1 hd'
    simp +contextual [h1,hw,k1,k2,UInt8.not_lt.2 k1,UInt8.not_lt.2 k2]
    refine⟨(),?_⟩
    subst hJ
    show (d.take (i+1)).all Gq=true
    rw[asl h1 hj]; exact hd'
   ·have k1:d.all Gq=false:=all_false h1 (by simpa using hd')
    rw[k1,Bool.false_and,Bool.false_and]
    have k2:48≤d[i]→¬ d[i]≤57:=fun h h'=>hd' (aeS.2 ⟨h,h'⟩)
    simp +contextual [h1,hw,k2]
  ·have:i=d.length:=by omega
   subst hJ
   have hj1:(d.take i).all Gq=true:=hj
   simp only[this,List.take_length] at hj1
   simp only[hj1,Bool.true_and]
   subst this
   clear hnum hw h1 hj hj1 hi
   cases d with
   | nil=>simp
   | cons c m =>
     have hz:¬ ((m.length:Int)+1=0):=by omega
     have hz' : ((m.length:Int)+1 == 0)=false:=by simpa using hz
     by_cases hc:c=48
     ·subst hc
      by_cases hl:l=[48]
      ·simp[aaW,hz,hz',hl]
      ·simp[aaW,hz,hz',hl]
     ·have hc' : ((c.toNat:Int) == 48)=false:=by simpa using hc
      simp[aaW,hz,hz',hc,hc']
theorem qD (a b:S) (ha:yg a=true) (hb:yg b=true):Ret prog M.nu [.str a,.str b] (.int .i64 (dZ (eu a b))):=by
 obtain⟨l,rfl,hl⟩:=amD ha
 obtain⟨m,rfl,hm⟩:=amD hb
 have dig0:∀ {x:List UInt8},yg (bs x)=true→0<(qW (bs x)).length∧neg (bs (qW (bs x)))=false:=fun {x} h=>by
  simp only[yg,Bool.and_eq_true,Bool.not_eq_true',List.isEmpty_eq_false_iff,List.all_eq_true] at h
  refine⟨List.length_pos_iff.2 h.1.2,?_⟩
  cases hd:qW (bs x) with
  | nil=>simp[neg]
  | cons c y =>
    have:=h.1.1 c (by rw[hd]; simp)
    have h48:=(aeS.1 this).1
    simp only[neg,aIF,List.head?_cons]
    rw[UInt8.le_iff_toNat_le] at h48
    simp only[beq_eq_false_iff_ne,ne_eq,Option.some.injEq]
    rintro rfl
    simp at h48
 have key:∀ x y:List UInt8,0<x.length→0<y.length→neg (bs x)=false→neg (bs y)=false→Ret prog M.nu [.str (bs x),.str (bs y)] (.int .i64 (dZ (uj x y))):=fun x y hx hy nx ny=>by
  refine Ret.go ah UF (by simp) fun hb w0 F0 hG=>?_
  match x,hx with
  | c::x,_ =>
    match y,hy with
    | d::y,_ =>
      simp[neg] at nx ny
      have nx' : ((c.toNat:Int) == 45)=false:=by simpa using nx
      have ny' : ((d.toNat:Int) == 45)=false:=by simpa using ny
      simp only[uj,List.length_cons]
      by_cases hl:x.length=y.length
      ·have hl' : ((x.length:Int)+1 == y.length+1)=true:=by simp[hl]
       simp[nx',ny',hl]
       repeat (refine⟨by omega,?_⟩)
       refine ak.ret (anr _ _) ?_
       simp[aaD,Qo]
      ·have hl' : ((x.length:Int)+1 == y.length+1)=false:=by simp; omega
       rcases Nat.lt_or_gt_of_ne hl with h|h
       ·rw[Zu.2 (by omega)]
        have hi:((x.length:Int)<y.length):=by omega
        simp[nx',ny',hl,hl',hi,Ordering.then]
        try omega
       ·rw[axF.2 (by omega)]
        have hi:¬ ((x.length:Int)<y.length):=by omega
        simp[nx',ny',hl,hl',hi,Ordering.then]
        try omega
 have n0:∀ {x:List UInt8},neg (bs x)=false→qW (bs x)=x:=fun {x} h=>by unfold qW; rw[h]; simp
 unfold eu
 cases ha' : neg (bs l)<;>cases hb' : neg (bs m)<;>simp only
 ·rw[n0 ha',n0 hb']; exact key l m hl hm ha' hb'
 all_goals
   obtain⟨p1,p2⟩:=dig0 ha
   obtain⟨q1,q2⟩:=dig0 hb
   rcases l with _|⟨c,x⟩
   ·simp at hl
   rcases m with _|⟨d,y⟩
   ·simp at hm
 ·refine Ret.go ah UF (by simp) fun hbb w0 F0 hG=>?_
  simp[neg] at ha' hb'
  have hc1:((c.toNat:Int) == 45)=false:=by simpa using ha'
  subst hb'
  simp[hc1]; try omega
 ·refine Ret.go ah UF (by simp) fun hbb w0 F0 hG=>?_
  simp[neg] at ha' hb'
  have hc1:((d.toNat:Int) == 45)=false:=by simpa using hb'
  subst ha'
  simp[hc1]; try omega
 ·simp only[qW,ha',hb',aIF,List.tail_cons,if_true] at p1 p2 q1 q2 ⊢
  refine Ret.go ah UF (by simp) fun hbb w0 F0 hG=>?_
  simp[neg] at ha' hb'
  subst ha'
  subst hb'
  simp[agL]
  repeat (refine⟨by omega,?_⟩)
  intro v
  repeat (refine⟨by omega,?_⟩)
  refine aH.ret (key y x q1 p1 q2 p2) ?_
  simp
end Go.Proofs.YtngjnfbngheccaaGreatDoor.Pv
set_option maxRecDepth 100000
namespace Go.Proofs.YtngjnfbngheccaaGreatDoor.Pv
open Go Go.Tidy
theorem aj9 (a b:S) (o:Ordering) (ha:fu a=true) (hb' : fu b=true):Ret prog M.Zo [.str a,.str b,.int .i64 (dZ o)] (.int .i64 (dZ (nI o a b))):=by
 refine Ret.go ah awV (by simp) fun hb w0 F0 hG=>?_
 unfold nI
 cases h1:sEq a b
 ·cases h2:eU a
  ·cases h3:eU b
   ·simp[h1,h2,h3]
    refine ak.ret (qD a b (fU ha h2) (fU hb' h3)) ?_
    simp
   ·simp[h1,h2,h3]
    cases o<;>simp[IntKind.wrap,IntKind.bits,IntKind.signed]
  ·simp[h1,h2]
 ·simp[h1]
def adw (a b:Ty):Ordering:=(l5 a.all b.all).then ((l5 a.null b.null).then ((l5 a.fls b.fls).then (l5 a.tru b.tru)))
theorem vv (p q r:Ordering):(p.then q).then r=p.then (q.then r):=by cases p<;>rfl
theorem aBf (a b:Ty):Ret prog M.afr [.agg (cT a),.agg (cT b)] (.int .i64 (dZ (adw a b))):=by
 refine Ret.go ah aBt (by simp) fun hb w0 F0 hG=>?_
 simp
 intro v1 v2
 refine ak.ret (Jh a.all b.all) ?_
 simp
 refine bF.one ah ⟨[(5,.int .i64 (dZ ((l5 a.all b.all).then (l5 a.null b.null)))),(2,.ptr (2,v1) 9 0 0),(3,.ptr (3,v2) 9 0 0)],[((3,v2),some ⟨9,[cT b],false,true⟩),((2,v1),some ⟨9,[cT a],false,true⟩)]⟩ ?_ ?_
 ·by_cases h:l5 a.all b.all=.eq
  ·simp[h]
   refine ak.ret (Jh a.null b.null) ?_
   simp
  ·simp[jd,h]
   simp[lG h]
 simp
 generalize hp:(l5 a.all b.all).then (l5 a.null b.null)=p
 refine bF.one ah ⟨[(5,.int .i64 (dZ (p.then (l5 a.fls b.fls)))),(2,.ptr (2,v1) 9 0 0),(3,.ptr (3,v2) 9 0 0)],[((3,v2),some ⟨9,[cT b],false,true⟩),((2,v1),some ⟨9,[cT a],false,true⟩)]⟩ ?_ ?_
 ·by_cases h:p=.eq
  ·simp[h]
   refine ak.ret (Jh a.fls b.fls) ?_
   simp
  ·simp[jd,h]
   simp[lG h]
 simp
 generalize hq:p.then (l5 a.fls b.fls)=q
 refine bF.one ah ⟨[(5,.int .i64 (dZ (q.then (l5 a.tru b.tru)))),(2,.ptr (2,v1) 9 0 0),(3,.ptr (3,v2) 9 0 0)],[((3,v2),some ⟨9,[cT b],false,true⟩),((2,v1),some ⟨9,[cT a],false,true⟩)]⟩ ?_ ?_
 ·by_cases h:q=.eq
  ·simp[h]
   refine ak.ret (Jh a.tru b.tru) ?_
   simp
  ·simp[jd,h]
   simp[lG h]
 simp
 rw[← hq,← hp,adw]
 simp[vv]
theorem aFf (a b:List Span) (ha:∀ s∈a,jo s=true) (hb' : ∀ s∈b,jo s=true):Ret prog M.ahg [.vec 2 false (a.map dw),.vec 2 false (b.map dw)] (.int .i64 (dZ (dn oH a b))):=by
 refine Ret.go ah aFQ (by simp) fun hb w0 F0 hG=>?_
 simp only[ig,jh,List.length_map,LIM,and_true] at hb
 simp
 obtain⟨J,hJ⟩ : ∃ J:Nat→Unit→Prop,J=fun i _=>i≤b.length∧dn oH a b=dn oH (a.drop i) (b.drop i):=⟨_,rfl⟩
 refine aU.cnt ah a.length (fun i _=>⟨[(5,.int .i64 i),(0,.vec 2 false (a.map dw)),(1,.vec 2 false (b.map dw))],[]⟩) J () (by simp[hJ]) (by simp) fun i _ hi hj=>?_
 have hw:=wrap64 (n:=(i:Int)+1) (by omega) (by omega)
 have hj' : i≤b.length∧dn oH a b=dn oH (a.drop i) (b.drop i):=by subst hJ; exact hj
 by_cases h1:i<a.length
 ·by_cases h2:i<b.length
  ·obtain⟨p1,p2⟩:=Ow (ha _ (List.getElem_mem h1))
   obtain⟨q1,q2⟩:=Ow (hb' _ (List.getElem_mem h2))
   simp[h1,h2,hw]
   intros
   refine aH.ret (aj9 a[i].low b[i].low .lt p1 q1) ?_
   simp
   refine bF.one ah ⟨[(6,.int .i64 (dZ (oH a[i] b[i]))),(5,.int .i64 i),(0,.vec 2 false (a.map dw)),(1,.vec 2 false (b.map dw))],[]⟩ ?_ ?_
   ·by_cases h:nI .lt a[i].low b[i].low=.eq
    ·simp[h,h1,h2]
     intros
     refine aH.ret (aj9 a[i].high b[i].high .gt p2 q2) ?_
     simp[oH,zw h]
    ·simp[jd,h]
     simp[oH,lG h]
   ·simp[hw,h1,jd]
    rw[hj'.2,mg h1 h2]
    refine⟨fun h=>by rw[lG h],fun h=>⟨(),?_⟩⟩
    subst hJ
    exact⟨h2,by rw[hj'.2,mg h1 h2,zw h]⟩
  ·simp[h1,h2]
   refine ak.ret (uM _ _) ?_
   simp
   rw[air,hj'.2,vV hi hj'.1 (by omega)]
 ·simp[h1]
  refine ak.ret (uM _ _) ?_
  simp
  rw[air,hj'.2,vV hi hj'.1 (by omega)]
theorem aM0 (a b:List Arr) (hA:∀ x∈a,gu x=true) (hB:∀ x∈b,gu x=true) (hf:∀ x∈a,∀ y∈b,Ret prog M.vo [.agg (cT x.item),.agg (cT y.item)] (.int .i64 (dZ (l8 x.item y.item)))):Ret prog M.abf [.vec 11 false (a.map dz),.vec 11 false (b.map dz)] (.int .i64 (dZ (dn yX a b))):=by
 refine Ret.go ah aFJ (by simp) fun hb w0 F0 hG=>?_
 simp only[ig,jh,List.length_map,LIM,and_true] at hb
 simp
 obtain⟨J,hJ⟩ : ∃ J:Nat→Unit→Prop,J=fun i _=>i≤b.length∧dn yX a b=dn yX (a.drop i) (b.drop i):=⟨_,rfl⟩
 refine aU.cnt ah a.length (fun i _=>⟨[(5,.int .i64 i),(0,.vec 11 false (a.map dz)),(1,.vec 11 false (b.map dz))],[]⟩) J () (by simp[hJ]) (by simp) fun i _ hi hj=>?_
 have hw:=wrap64 (n:=(i:Int)+1) (by omega) (by omega)
 have hj' : i≤b.length∧dn yX a b=dn yX (a.drop i) (b.drop i):=by subst hJ; exact hj
 by_cases h1:i<a.length
 ·by_cases h2:i<b.length
  ·obtain⟨-,p2,-,-,-⟩:=gY (hA _ (List.getElem_mem h1))
   obtain⟨-,q2,-,-,-⟩:=gY (hB _ (List.getElem_mem h2))
   simp[h1,h2,hw]
   intros
   refine aH.ret (uM a[i].min b[i].min) ?_
   simp
   rw[hj'.2,mg h1 h2]
   by_cases h:compare a[i].min b[i].min=.eq
   ·by_cases h' : a[i].max=b[i].max
    ·have hm:vk a[i].max b[i].max=.eq:=(amC p2 q2).2 h'
     simp[h,h',h1,h2]
     intros
     refine bF.one ah ⟨[(6,.int .i64 (dZ (yX a[i] b[i]))),(5,.int .i64 i),(0,.vec 11 false (a.map dz)),(1,.vec 11 false (b.map dz))],[]⟩ ?_ ?_
     ·simp[h1,h2]
      intros
      refine aH.ret (hf _ (List.getElem_mem h1) _ (List.getElem_mem h2)) ?_
      simp[aqj,zw h,zw hm]
     ·simp[hw,h1,jd]
      refine⟨fun h=>by rw[lG h],fun h=>⟨(),?_⟩⟩
      subst hJ
      exact⟨h2,by rw[hj'.2,mg h1 h2,zw h]⟩
    ·have hm:vk a[i].max b[i].max≠.eq:=fun e=>h' ((amC p2 q2).1 e)
     have hc:(yX a[i] b[i])=vk a[i].max b[i].max:=by rw[aqj,zw h,lG hm]
     rw[lG (by rw[hc]; exact hm),hc]
     unfold vk
     by_cases k1:a[i].max<0
     ·have k2:¬ b[i].max<0:=by omega
      simp[h,h',h1,h2,k1,k2]
     ·by_cases k2:b[i].max<0
      ·simp[h,h',h1,h2,k1,k2]
      ·simp[h,h',h1,h2,k1,k2]
       intros
       refine aH.ret (uM a[i].max b[i].max) ?_
       simp
   ·have hc:(yX a[i] b[i])=compare a[i].min b[i].min:=by rw[aqj,lG h]
    simp[jd,h,h1,h2]
    intros
    refine bF.one ah ⟨[(6,.int .i64 (dZ (yX a[i] b[i]))),(5,.int .i64 i),(0,.vec 11 false (a.map dz)),(1,.vec 11 false (b.map dz))],[]⟩ ?_ ?_
    ·simp[jd,h,hc]
    ·rw[hc]
     simp[jd,h]
     rw[lG h]
  ·simp[h1,h2]
   refine ak.ret (uM _ _) ?_
   simp
   rw[air,hj'.2,vV hi hj'.1 (by omega)]
 ·simp[h1]
  refine ak.ret (uM _ _) ?_
  simp
  rw[air,hj'.2,vV hi hj'.1 (by omega)]
theorem aNf (a b:List Ob) (hf:∀ x∈a,∀ y∈b,Ret prog M.aeg [.agg (cO x),.agg (cO y)] (.int .i64 (dZ (oh x y)))):Ret prog M.aa9 [.vec 12 false (a.map au),.vec 12 false (b.map au)] (.int .i64 (dZ (dn oh a b))):=by
 refine Ret.go ah aGL (by simp) fun hb w0 F0 hG=>?_
 simp only[ig,jh,List.length_map,LIM,and_true] at hb
 simp
 obtain⟨J,hJ⟩ : ∃ J:Nat→Unit→Prop,J=fun i _=>i≤b.length∧dn oh a b=dn oh (a.drop i) (b.drop i):=⟨_,rfl⟩
 refine aU.cnt ah a.length (fun i _=>⟨[(5,.int .i64 i),(0,.vec 12 false (a.map au)),(1,.vec 12 false (b.map au))],[]⟩) J () (by simp[hJ]) (by simp) fun i _ hi hj=>?_
 have hw:=wrap64 (n:=(i:Int)+1) (by omega) (by omega)
 have hj' : i≤b.length∧dn oh a b=dn oh (a.drop i) (b.drop i):=by subst hJ; exact hj
 by_cases h1:i<a.length
 ·by_cases h2:i<b.length
  ·simp[h1,h2,hw]
   intros
   refine aH.ret (hf _ (List.getElem_mem h1) _ (List.getElem_mem h2)) ?_
   simp[hw,h1,jd]
   rw[hj'.2,mg h1 h2]
   refine⟨fun h=>by rw[lG h],fun h=>⟨(),?_⟩⟩
   subst hJ
   exact⟨h2,by rw[hj'.2,mg h1 h2,zw h]⟩
  ·simp[h1,h2]
   refine ak.ret (uM _ _) ?_
   simp
   rw[air,hj'.2,vV hi hj'.1 (by omega)]
 ·simp[h1]
  refine ak.ret (uM _ _) ?_
  simp
  rw[air,hj'.2,vV hi hj'.1 (by omega)]
end Go.Proofs.YtngjnfbngheccaaGreatDoor.Pv
set_option maxRecDepth 100000
namespace Go.Proofs.YtngjnfbngheccaaGreatDoor.Pv
open Go Go.Tidy
def ZK {α:Type} (g:α→α→Ordering) (r:Ordering) (a b:List α) (i:Nat) (p:Ordering):Prop :=
 (p=.eq→r=.eq∧dn g a b=dn g (a.drop i) (b.drop i))∧(p≠.eq→p=r.then (dn g a b))
theorem ZK.start {α:Type} (g:α→α→Ordering) (r:Ordering) (a b:List α):ZK g r a b 0 r:=⟨fun h=>⟨h,by simp⟩,fun h=>by rw[lG h]⟩
theorem ZK.step {α:Type} {g:α→α→Ordering} {r:Ordering} {a b:List α} {i:Nat} (h:ZK g r a b i .eq) (h1:i<a.length) (h2:i<b.length):ZK g r a b (i+1) (g a[i] b[i]):=by
 obtain⟨hr,hl⟩:=h.1 rfl
 refine⟨fun h=>⟨hr,by rw[hl,mg h1 h2,zw h]⟩,fun h=>by rw[zw hr,hl,mg h1 h2,lG h]⟩
theorem ZK.stop {α:Type} {g:α→α→Ordering} {r p:Ordering} {a b:List α} {i:Nat} (h:ZK g r a b i p) (hl:r=.eq→a.length=b.length) (hs:p≠.eq∨a.length≤i):p=r.then (dn g a b):=by
 by_cases hp:p=.eq
 ·obtain⟨hr,hq⟩:=h.1 hp
  have h1:=hs.resolve_left (fun h=>h hp)
  rw[zw hr,hq,List.drop_eq_nil_of_le h1,List.drop_eq_nil_of_le (by rw[← hl hr]; exact h1),hp]; rfl
 ·exact h.2 hp
theorem aN1 (a b:Ob) (ha:bg a=true) (hb' : bg b=true) (hf:∀ x∈a.fields,∀ y∈b.fields,Ret prog M.vo [.agg (cT x),.agg (cT y)] (.int .i64 (dZ (l8 x y)))) (hr:Ret prog M.vo [.agg (cT a.rest),.agg (cT b.rest)] (.int .i64 (dZ (l8 a.rest b.rest)))) :
 Ret prog M.aeg [.agg (cO a),.agg (cO b)] (.int .i64 (dZ (oh a b))):=by
 obtain⟨a1,a2,-,-,-,-⟩:=dH ha
 obtain⟨b1,b2,-,-,-,-⟩:=dH hb'
 refine Ret.go ah aHA (by simp) fun hb w0 F0 hG=>?_
 simp only[ig,jh,List.length_map,LIM,and_true] at hb
 simp
 intro v1 v2
 refine ak.ret (amG a.names b.names) ?_
 simp
 generalize hr0:dn lq a.names b.names=r
 have hlm:r=.eq→a.must.length=b.must.length:=fun h=>by rw[← a2,← b2,aqe (hr0.trans h)]
 have hlf:r=.eq→a.fields.length=b.fields.length:=fun h=>by rw[← a1,← b1,aqe (hr0.trans h)]
 obtain⟨J,hJ⟩ : ∃ J:Nat→Ordering→Prop,J=ZK l5 r a.must b.must:=⟨_,rfl⟩
 refine aU.cnt ah a.must.length (fun i p=>⟨[(6,.int .i64 i),(5,.int .i64 (dZ p)),(2,.ptr (2,v1) 12 0 0),(3,.ptr (3,v2) 12 0 0)],[((3,v2),some ⟨12,[cO b],false,true⟩),((2,v1),some ⟨12,[cO a],false,true⟩)]⟩) J r (by rw[hJ]; exact ZK.start _ _ _ _) (by simp) fun i p hi hj=>?_
 have hw:=wrap64 (n:=(i:Int)+1) (by omega) (by omega)
 have hj' : ZK l5 r a.must b.must i p:=by rw[hJ] at hj; exact hj
 by_cases hgo:p=.eq∧i<a.must.length
 ·obtain⟨rfl,h1⟩:=hgo
  have h2:i<b.must.length:=by rw[← hlm (hj'.1 rfl).1]; exact h1
  simp[h1,h2,hw]
  intros
  refine aH.ret (Jh a.must[i] b.must[i]) ?_
  simp[hw,h1,h2]
  exact⟨l5 a.must[i] b.must[i],by rw[hJ]; exact hj'.step h1 h2,rfl⟩
 ·have hp:p=r.then (dn l5 a.must b.must):=hj'.stop hlm (by by_cases h:p=.eq; exact .inr (Nat.not_lt.1 (fun h'=>hgo ⟨h,h'⟩)); exact .inl h)
  have hq:p=.eq→r=.eq:=fun h=>by rw[hp] at h; exact (Qx.1 h).1
  have hstop:¬ (i<a.must.length)∨(i<a.must.length∧¬ p=.eq):=by by_cases h:i<a.must.length; exact .inr ⟨h,fun e=>hgo ⟨e,h⟩⟩; exact .inl h
  clear hgo hj hj' hJ hw hi
  rcases hstop with h1|⟨h1,h1'⟩
  ·simp[h1]
   clear h1
   obtain⟨J,hJ⟩ : ∃ J:Nat→Ordering→Prop,J=ZK l8 p a.fields b.fields:=⟨_,rfl⟩
   refine aU.cnt ah a.fields.length (fun i p=>⟨[(7,.int .i64 i),(5,.int .i64 (dZ p)),(2,.ptr (2,v1) 12 0 0),(3,.ptr (3,v2) 12 0 0)],[((3,v2),some ⟨12,[cO b],false,true⟩),((2,v1),some ⟨12,[cO a],false,true⟩)]⟩) J p (by rw[hJ]; exact ZK.start _ _ _ _) (by simp) fun k p' hk hj=>?_
   have hw:=wrap64 (n:=(k:Int)+1) (by omega) (by omega)
   have hj' : ZK l8 p a.fields b.fields k p':=by rw[hJ] at hj; exact hj
   have hlf' : p=.eq→a.fields.length=b.fields.length:=fun h=>hlf (hq h)
   by_cases hgo:p'=.eq∧k<a.fields.length
   ·obtain⟨rfl,h1⟩:=hgo
    have h2:k<b.fields.length:=by rw[← hlf' (hj'.1 rfl).1]; exact h1
    simp[h1,h2,hw]
    intros
    refine aH.ret (hf _ (List.getElem_mem h1) _ (List.getElem_mem h2)) ?_
    simp[hw,h1,h2]
    exact⟨l8 a.fields[k] b.fields[k],by rw[hJ]; exact hj'.step h1 h2,rfl⟩
   ·have hp' : p'=p.then (dn l8 a.fields b.fields):=hj'.stop hlf' (by by_cases h:p'=.eq; exact .inr (Nat.not_lt.1 (fun h'=>hgo ⟨h,h'⟩)); exact .inl h)
    have hstop' : ¬ (k<a.fields.length)∨(k<a.fields.length∧¬ p'=.eq):=by by_cases h:k<a.fields.length; exact .inr ⟨h,fun e=>hgo ⟨e,h⟩⟩; exact .inl h
    clear hgo hj hj' hJ hw hk
    have hfin:oh a b=p'.then (l8 a.rest b.rest):=by rw[as3,hr0,hp',hp,vv,vv]
    rw[hfin]
    have last:∀ s:List (Nat × PV),lk 5 s=.int .i64 (dZ p')→lk 2 s=.ptr (2,v1) 12 0 0→lk 3 s=.ptr (3,v2) 12 0 0→bF ⟨prog,w0,F0,79,[],0,hG⟩ M.aff ⟨s,[((3,v2),some ⟨12,[cO b],false,true⟩),((2,v1),some ⟨12,[cO a],false,true⟩)]⟩ [.sq ((MC.reg [M.o 78 (.mv (.t 5)),M.o 4 (.mv (.t 78))]).seq .ret)] (yt M.ahv (.int .i64 (dZ (p'.then (l8 a.rest b.rest))))):=fun s e5 e2 e3=>by
     refine bF.one ah ⟨[(5,.int .i64 (dZ (p'.then (l8 a.rest b.rest))))],[]⟩ ?_ ?_
     ·by_cases h:p'=.eq
      ·simp[e5,e2,e3,h]
       refine ak.ret hr ?_
       simp
      ·simp[e5,e2,e3,jd,h]
       rw[lG h]
     ·simp
    rcases hstop' with h1|⟨h1,h1'⟩
    ·simp[h1]
     exact last _ (by simp) (by simp) (by simp)
    ·simp[h1,h1',jd]
     exact last _ (by simp) (by simp) (by simp)
  ·simp[h1,h1',jd]
   clear h1'
   clear h1
   obtain⟨J,hJ⟩ : ∃ J:Nat→Ordering→Prop,J=ZK l8 p a.fields b.fields:=⟨_,rfl⟩
   refine aU.cnt ah a.fields.length (fun i p=>⟨[(7,.int .i64 i),(5,.int .i64 (dZ p)),(2,.ptr (2,v1) 12 0 0),(3,.ptr (3,v2) 12 0 0)],[((3,v2),some ⟨12,[cO b],false,true⟩),((2,v1),some ⟨12,[cO a],false,true⟩)]⟩) J p (by rw[hJ]; exact ZK.start _ _ _ _) (by simp) fun k p' hk hj=>?_
   have hw:=wrap64 (n:=(k:Int)+1) (by omega) (by omega)
   have hj' : ZK l8 p a.fields b.fields k p':=by rw[hJ] at hj; exact hj
   have hlf' : p=.eq→a.fields.length=b.fields.length:=fun h=>hlf (hq h)
   by_cases hgo:p'=.eq∧k<a.fields.length
   ·obtain⟨rfl,h1⟩:=hgo
    have h2:k<b.fields.length:=by rw[← hlf' (hj'.1 rfl).1]; exact h1
    simp[h1,h2,hw]
    intros
    refine aH.ret (hf _ (List.getElem_mem h1) _ (List.getElem_mem h2)) ?_
    simp[hw,h1,h2]
    exact⟨l8 a.fields[k] b.fields[k],by rw[hJ]; exact hj'.step h1 h2,rfl⟩
   ·have hp' : p'=p.then (dn l8 a.fields b.fields):=hj'.stop hlf' (by by_cases h:p'=.eq; exact .inr (Nat.not_lt.1 (fun h'=>hgo ⟨h,h'⟩)); exact .inl h)
    have hstop' : ¬ (k<a.fields.length)∨(k<a.fields.length∧¬ p'=.eq):=by by_cases h:k<a.fields.length; exact .inr ⟨h,fun e=>hgo ⟨e,h⟩⟩; exact .inl h
    clear hgo hj hj' hJ hw hk
    have hfin:oh a b=p'.then (l8 a.rest b.rest):=by rw[as3,hr0,hp',hp,vv,vv]
    rw[hfin]
    have last:∀ s:List (Nat × PV),lk 5 s=.int .i64 (dZ p')→lk 2 s=.ptr (2,v1) 12 0 0→lk 3 s=.ptr (3,v2) 12 0 0→bF ⟨prog,w0,F0,79,[],0,hG⟩ M.aff ⟨s,[((3,v2),some ⟨12,[cO b],false,true⟩),((2,v1),some ⟨12,[cO a],false,true⟩)]⟩ [.sq ((MC.reg [M.o 78 (.mv (.t 5)),M.o 4 (.mv (.t 78))]).seq .ret)] (yt M.ahv (.int .i64 (dZ (p'.then (l8 a.rest b.rest))))):=fun s e5 e2 e3=>by
     refine bF.one ah ⟨[(5,.int .i64 (dZ (p'.then (l8 a.rest b.rest))))],[]⟩ ?_ ?_
     ·by_cases h:p'=.eq
      ·simp[e5,e2,e3,h]
       refine ak.ret hr ?_
       simp
      ·simp[e5,e2,e3,jd,h]
       rw[lG h]
     ·simp
    rcases hstop' with h1|⟨h1,h1'⟩
    ·simp[h1]
     exact last _ (by simp) (by simp) (by simp)
    ·simp[h1,h1',jd]
     exact last _ (by simp) (by simp) (by simp)
theorem arU (a:Ty):∀ b:Ty,aj a=true→aj b=true→Ret prog M.vo [.agg (cT a),.agg (cT b)] (.int .i64 (dZ (l8 a b))):=by
 induction hn:SizeOf.sizeOf a using Nat.strongRecOn generalizing a with
 | _ n ih =>
 subst hn
 intro b ha hb'
 obtain⟨-,-,-,-,a5,-,a7,a8⟩:=bN ha
 obtain⟨-,-,-,-,b5,-,b7,b8⟩:=bN hb'
 have hA:Ret prog M.abf [.vec 11 false (a.arrays.map dz),.vec 11 false (b.arrays.map dz)] (.int .i64 (dZ (dn yX a.arrays b.arrays))) :=
  aM0 a.arrays b.arrays a7 b7 fun x hx y hy=>ih _ (Y8 hx) x.item rfl y.item (gY (a7 x hx)).2.2.2.1 (gY (b7 y hy)).2.2.2.1
 have hO:Ret prog M.aa9 [.vec 12 false (a.objects.map au),.vec 12 false (b.objects.map au)] (.int .i64 (dZ (dn oh a.objects b.objects))) :=
  aNf a.objects b.objects fun x hx y hy=>by
   obtain⟨-,-,-,x4,x5,-⟩:=dH (a8 x hx)
   obtain⟨-,-,-,y4,y5,-⟩:=dH (b8 y hy)
   exact aN1 x y (a8 x hx) (b8 y hy) (fun u hu v hv=>ih _ (QB hx hu) u rfl v (x5 u hu) (y5 v hv)) (ih _ (OG hx) x.rest rfl y.rest x4 y4)
 refine Ret.go ah aGX (by simp) fun hb w0 F0 hG=>?_
 simp
 intro v1 v2
 refine ak.ret (aBf a b) ?_
 simp
 rw[aEu]
 have e0:adw a b=adw a b:=rfl
 generalize hp0:adw a b=p
 have hfin:∀ x,(l5 a.all b.all).then ((l5 a.null b.null).then ((l5 a.fls b.fls).then ((l5 a.tru b.tru).then x)))=p.then x:=fun x=>by rw[← hp0,adw]; simp[vv]
 rw[hfin]
 refine bF.one ah ⟨[(5,.int .i64 (dZ (p.then (dn oH a.nums b.nums)))),(2,.ptr (2,v1) 9 0 0),(3,.ptr (3,v2) 9 0 0)],[((3,v2),some ⟨9,[cT b],false,true⟩),((2,v1),some ⟨9,[cT a],false,true⟩)]⟩ ?_ ?_
 ·by_cases h:p=.eq
  ·simp[h]
   refine ak.ret (aFf a.nums b.nums a5 b5) ?_
   simp
  ·simp[jd,h]
   simp[lG h]
 simp
 rw[← vv]
 generalize p.then (dn oH a.nums b.nums)=q1
 refine bF.one ah ⟨[(5,.int .i64 (dZ (q1.then (l5 a.any b.any)))),(2,.ptr (2,v1) 9 0 0),(3,.ptr (3,v2) 9 0 0)],[((3,v2),some ⟨9,[cT b],false,true⟩),((2,v1),some ⟨9,[cT a],false,true⟩)]⟩ ?_ ?_
 ·by_cases h:q1=.eq
  ·simp[h]
   refine ak.ret (Jh a.any b.any) ?_
   simp
  ·simp[jd,h]
   simp[lG h]
 simp
 rw[← vv]
 generalize q1.then (l5 a.any b.any)=q2
 refine bF.one ah ⟨[(5,.int .i64 (dZ (q2.then (dn lq a.texts b.texts)))),(2,.ptr (2,v1) 9 0 0),(3,.ptr (3,v2) 9 0 0)],[((3,v2),some ⟨9,[cT b],false,true⟩),((2,v1),some ⟨9,[cT a],false,true⟩)]⟩ ?_ ?_
 ·by_cases h:q2=.eq
  ·simp[h]
   refine ak.ret (amG a.texts b.texts) ?_
   simp
  ·simp[jd,h]
   simp[lG h]
 simp
 rw[← vv]
 generalize q2.then (dn lq a.texts b.texts)=q3
 refine bF.one ah ⟨[(5,.int .i64 (dZ (q3.then (dn yX a.arrays b.arrays)))),(2,.ptr (2,v1) 9 0 0),(3,.ptr (3,v2) 9 0 0)],[((3,v2),some ⟨9,[cT b],false,true⟩),((2,v1),some ⟨9,[cT a],false,true⟩)]⟩ ?_ ?_
 ·by_cases h:q3=.eq
  ·simp[h]
   refine ak.ret (hA) ?_
   simp
  ·simp[jd,h]
   simp[lG h]
 simp
 rw[← vv]
 generalize q3.then (dn yX a.arrays b.arrays)=q4
 refine bF.one ah ⟨[(5,.int .i64 (dZ (q4.then (dn oh a.objects b.objects)))),(2,.ptr (2,v1) 9 0 0),(3,.ptr (3,v2) 9 0 0)],[((3,v2),some ⟨9,[cT b],false,true⟩),((2,v1),some ⟨9,[cT a],false,true⟩)]⟩ ?_ ?_
 ·by_cases h:q4=.eq
  ·simp[h]
   refine ak.ret (hO) ?_
   simp
  ·simp[jd,h]
   simp[lG h]
 simp
end Go.Proofs.YtngjnfbngheccaaGreatDoor.Pv
set_option maxRecDepth 100000
namespace Go.Proofs.YtngjnfbngheccaaGreatDoor.Pv
open Go Go.Tidy
theorem aqi {c d:UInt8}:((c.toNat:Int)≤(d.toNat:Int))↔c≤d:=by rw[UInt8.le_iff_toNat_le]; omega
theorem aNQ {c d:UInt8}:((c.toNat:Int)<(d.toNat:Int))↔c<d:=by rw[UInt8.lt_iff_toNat_lt]; omega
@[simp] theorem aRv {c:UInt8}:((c.toNat:Int)<128)↔c<128:=aNQ (d:=128)
@[simp] theorem aQX {c:UInt8}:(191<(c.toNat:Int))↔191<c:=aNQ (c:=191)
@[simp] theorem aRF {c:UInt8}:((c.toNat:Int)=224)↔c=224:=aqm 224
@[simp] theorem aRB {c:UInt8}:((c.toNat:Int)=237)↔c=237:=aqm 237
@[simp] theorem aRx {c:UInt8}:((c.toNat:Int)=240)↔c=240:=aqm 240
@[simp] theorem aRA {c:UInt8}:((c.toNat:Int)=244)↔c=244:=aqm 244
@[simp] theorem aQV {c:UInt8}:(194≤(c.toNat:Int))↔194≤c:=aqi (c:=194)
@[simp] theorem aQL {c:UInt8}:(224≤(c.toNat:Int))↔224≤c:=aqi (c:=224)
@[simp] theorem aQ0 {c:UInt8}:(240≤(c.toNat:Int))↔240≤c:=aqi (c:=240)
@[simp] theorem aRs {c:UInt8}:((c.toNat:Int)≤223)↔c≤223:=aqi (d:=223)
@[simp] theorem aQ8 {c:UInt8}:((c.toNat:Int)≤239)↔c≤239:=aqi (d:=239)
@[simp] theorem aRf {c:UInt8}:((c.toNat:Int)≤244)↔c≤244:=aqi (d:=244)
theorem aJi {l:List UInt8} {i n k:Nat} {lo hi:UInt8} (hk:k<n) (h:i+k<l.length) (hc:¬ (128≤l[i+k]∧l[i+k]≤191)):trail (l.drop i) n lo hi=false:=by
 have:((l.drop i).take n).all (fun c=>128≤c&&c≤191)=false:=by
  rw[List.all_eq_false]
  refine⟨l[i+k],?_,by simpa using hc⟩
  rw[List.mem_iff_getElem?]
  exact⟨k,by rw[List.getElem?_take_of_lt hk,List.getElem?_drop,List.getElem?_eq_getElem h]⟩
 simp[trail,this]
theorem az4 (l:List UInt8) (i n:Nat) (lo hi:UInt8) (hn:1≤n) (hn' : n≤3) (hi' : i≤l.length):Ret prog M.xK [.str (bs l),.int .i64 i,.int .i64 n,.int .u8 lo.toNat,.int .u8 hi.toNat] (.bool (trail (l.drop i) n lo hi)):=by
 refine Ret.go ah aCF (by simp) fun hb w0 F0 hG=>?_
 simp only[ig,jh,ag4,LIM,and_true] at hb
 have w1:=wrap64 (n:=(i:Int)+n) (by omega) (by omega)
 by_cases h:i+n≤l.length
 ·have h' : ¬ ((l.length:Int)<(i:Int)+n):=by omega
  simp[w1,h']
  obtain⟨J,hJ⟩ : ∃ J:Nat→Unit→Prop,J=fun k _=>((l.drop i).take k).all (fun c=>128≤c&&c≤191)=true:=⟨_,rfl⟩
  refine aU.cnt ah n (fun k _=>⟨[(11,.int .i64 k),(0,.str (bs l)),(1,.int .i64 i),(2,.int .i64 n),(3,.int .u8 lo.toNat),(4,.int .u8 hi.toNat)],[]⟩) J () (by simp[hJ]) (by simp) fun k _ hk hj=>?_
  have hw:=wrap64 (n:=(k:Int)+1) (by omega) (by omega)
  have hw2:=wrap64 (n:=(i:Int)+k) (by omega) (by omega)
  have hj' : ((l.drop i).take k).all (fun c=>128≤c&&c≤191)=true:=by subst hJ; exact hj
  have e0:((i:Int)+(k:Int)).toNat=i+k:=by omega
  by_cases h1:k<n
  ·have h2:i+k<l.length:=by omega
   have h3:(i:Int)+k<l.length:=by omega
   have h4:(0:Int)≤(i:Int)+k:=by omega
   by_cases hc:128≤l[i+k]∧l[i+k]≤191
   ·have k1:¬ l[i+k]<128:=UInt8.not_lt.2 hc.1
    have k2:¬ 191<l[i+k]:=UInt8.not_lt.2 hc.2
    simp[h1,hw,hw2,e0,h2,h3,h4,k1,k2]
    refine⟨(),?_⟩
    subst hJ
    show ((l.drop i).take (k+1)).all _=true
    rw[asl (by simp; omega) hj']
    simpa using hc
   ·rw[aJi h1 h2 hc]
    have k12:l[i+k]<128∨191<l[i+k]:=by
     rcases UInt8.lt_or_le l[i+k] 128 with k1|k1
     ·exact .inl k1
     ·rcases UInt8.lt_or_le 191 l[i+k] with k2|k2
      ·exact .inr k2
      ·exact absurd ⟨k1,k2⟩ hc
    rcases k12 with k1|k1
    ·simp[h1,hw,hw2,e0,h2,h3,h4,k1]
    ·by_cases k2:l[i+k]<128
     ·simp[h1,hw,hw2,e0,h2,h3,h4,k2]
     ·simp[h1,hw,hw2,e0,h2,h3,h4,k1,k2]
  ·have:k=n:=by omega
   subst this
   have hil:i<l.length:=by omega
   have e:trail (l.drop i) k lo hi=(decide (lo≤l[i])&&decide (l[i]≤hi)):=by
    unfold trail
    rw[hj',List.drop_eq_getElem_cons hil]
    have:k≤(l[i]::l.drop (i+1)).length:=by simp; omega
    rw[decide_eq_true this]; rfl
   rw[e]
   by_cases k1:lo≤l[i]
   ·have k1' : lo.toNat≤l[i].toNat:=UInt8.le_iff_toNat_le.1 k1
    have k2:decide (l[i].toNat≤hi.toNat)=decide (l[i]≤hi):=by simp[UInt8.le_iff_toNat_le]
    simp[hil,k1,k1',k2]
   ·have k1' : ¬ lo.toNat≤l[i].toNat:=fun h=>k1 (UInt8.le_iff_toNat_le.2 h)
    simp[hil,k1,k1']
 ·have h' : ((l.length:Int)<(i:Int)+n):=by omega
  have e:trail (l.drop i) n lo hi=false:=by
   have:¬ n≤l.length-i:=by omega
   simp[trail,this]
  rw[e]
  simp[w1,h']
theorem aLu {l:List UInt8} {n:Nat} {lo hi:UInt8} (h:trail l n lo hi=true):n≤l.length:=by
 simp[trail] at h; exact h.1.1
theorem azA (l:List UInt8):width l≤l.length:=by
 cases l with
 | nil=>simp[width]
 | cons c l =>
   simp only[width]
   repeat' split
   all_goals first
     | (simp; done)
     | (rename_i h; simp only[Bool.and_eq_true] at h; have:=aLu h.2; simp; omega)
theorem aKR {w0:World} {F0:Nat→Prop} {hG:GOk prog w0 F0} (l:List UInt8) (i c lo hi:Nat) (T:Nat→Bool) (w1' : IntKind.i64.wrap ((i:Int)+1)=((i+1:Nat):Int))
 (tr:∀ n:Nat,1≤n→n≤3→Ret prog M.xK [.str (bs l),.int .i64 ((i+1:Nat):Int),.int .i64 n,.int .u8 lo,.int .u8 hi] (.bool (T n))) (W:Nat)
 (hW:W=if 224≤c∧c≤239∧T 2=true then 3 else if 240≤c∧c≤244∧T 3=true then 4 else 0) :
 XC ⟨prog,w0,F0,61,[],0,hG⟩ M.aiu ⟨[(5,.int .u8 c),(6,.int .u8 lo),(7,.int .u8 hi),(0,.str (bs l)),(1,.int .i64 i)],[]⟩ [] (yt M.adB (.int .i64 W)):=by
 by_cases g1:224≤c
 ·have g1' : (224:Int)≤c:=by omega
  by_cases g2:c≤239
  ·have g2' : (c:Int)≤239:=by omega
   have n1:¬ 240≤c:=by omega
   have n1' : ¬ (240:Int)≤c:=by omega
   simp[g1',g2',n1',w1']
   refine ak.ret (tr 2 (by omega) (by omega)) ?_
   cases ht:T 2
   ·simp[n1',hW,n1,ht]
   ·simp[hW,g1,g2,ht]
  ·have g2' : ¬ (c:Int)≤239:=by omega
   have g3:240≤c:=by omega
   have g3' : (240:Int)≤c:=by omega
   by_cases g4:c≤244
   ·have g4' : (c:Int)≤244:=by omega
    simp[g1',g2',g3',g4',w1']
    refine ak.ret (tr 3 (by omega) (by omega)) ?_
    cases ht:T 3<;>simp[hW,g2,g3,g4,ht]
   ·have g4' : ¬ (c:Int)≤244:=by omega
    simp[g1',g2',g3',g4',hW,g2,g3,g4]
 ·have g1' : ¬ (224:Int)≤c:=by omega
  have n1:¬ 240≤c:=by omega
  have n1' : ¬ (240:Int)≤c:=by omega
  simp[g1',n1',hW,n1,g1]
theorem aJK {w0:World} {F0:Nat→Prop} {hG:GOk prog w0 F0} (l d:List UInt8) (i:Nat) (c:UInt8) (w1' : IntKind.i64.wrap ((i:Int)+1)=((i+1:Nat):Int))
 (tr:∀ (n:Nat) (lo hi:UInt8),1≤n→n≤3→Ret prog M.xK [.str (bs l),.int .i64 ((i+1:Nat):Int),.int .i64 n,.int .u8 lo.toNat,.int .u8 hi.toNat] (.bool (trail d n lo hi))) (s:List (Nat × PV))
 (e5:lk 5 s=.int .u8 c.toNat) (e6:lk 6 s=.int .u8 128) (e7:lk 7 s=.int .u8 191) (e0:lk 0 s=.str (bs l)) (e1:lk 1 s=.int .i64 i) :
 bF ⟨prog,w0,F0,61,[],0,hG⟩ M.ai3 ⟨s,[]⟩ [.sq M.ajc] (yt M.adB (.int .i64 (if 224≤c&&c≤239&&trail d 2 (if c == 224 then 160 else 128) (if c == 237 then 159 else 191) then 3 else if 240≤c&&c≤244&&trail d 3 (if c == 240 then 144 else 128) (if c == 244 then 143 else 191) then 4 else 0:Nat))):=by
 refine bF.one ah ⟨[(5,.int .u8 c.toNat),(6,.int .u8 ((if c=224 then 160 else 128:UInt8).toNat:Int)),(7,.int .u8 ((191:UInt8).toNat:Int)),(0,.str (bs l)),(1,.int .i64 i)],[]⟩ ?_ ?_
 ·by_cases h:c=224<;>simp[e5,e6,e7,e0,e1,h]
 simp
 refine bF.one ah ⟨[(5,.int .u8 c.toNat),(6,.int .u8 ((if c=224 then 160 else 128:UInt8).toNat:Int)),(7,.int .u8 ((if c=237 then 159 else 191:UInt8).toNat:Int)),(0,.str (bs l)),(1,.int .i64 i)],[]⟩ ?_ ?_
 ·by_cases h:c=237<;>simp[h]
 simp
 refine bF.one ah ⟨[(5,.int .u8 c.toNat),(6,.int .u8 ((if c=240 then 144 else (if c=224 then 160 else 128):UInt8).toNat:Int)),(7,.int .u8 ((if c=237 then 159 else 191:UInt8).toNat:Int)),(0,.str (bs l)),(1,.int .i64 i)],[]⟩ ?_ ?_
 ·by_cases h:c=240<;>simp[h]
 simp
 refine bF.one ah ⟨[(5,.int .u8 c.toNat),(6,.int .u8 ((if c=240 then 144 else (if c=224 then 160 else 128):UInt8).toNat:Int)),(7,.int .u8 ((if c=244 then 143 else (if c=237 then 159 else 191):UInt8).toNat:Int)),(0,.str (bs l)),(1,.int .i64 i)],[]⟩ ?_ ?_
 ·by_cases h:c=244<;>simp[h]
 rw[amu]
 refine aKR l i c.toNat _ _ (fun n=>trail d n (if c=240 then 144 else (if c=224 then 160 else 128)) (if c=244 then 143 else (if c=237 then 159 else 191))) w1' (fun n h1 h2=>tr n _ _ h1 h2) _ ?_
 have q1:(224≤c)=(224≤c.toNat):=by rw[UInt8.le_iff_toNat_le]; rfl
 have q2:(c≤239)=(c.toNat≤239):=by rw[UInt8.le_iff_toNat_le]; rfl
 have q3:(240≤c)=(240≤c.toNat):=by rw[UInt8.le_iff_toNat_le]; rfl
 have q4:(c≤244)=(c.toNat≤244):=by rw[UInt8.le_iff_toNat_le]; rfl
 simp only[q1,q2,q3,q4,Bool.and_eq_true,decide_eq_true_eq,beq_iff_eq,and_assoc]
 by_cases g1:c.toNat≤239
 ·have n1:¬ 240≤c.toNat:=by omega
  have n2:¬ c=240:=fun e=>n1 (by rw[e]; decide)
  have n3:¬ c=244:=fun e=>n1 (by rw[e]; decide)
  simp[n1,n2,n3]
 ·have n2:¬ c=224:=fun e=>g1 (by rw[e]; decide)
  have n3:¬ c=237:=fun e=>g1 (by rw[e]; decide)
  simp[g1,n2,n3]
theorem az6 (l:List UInt8) (i:Nat) (hi:i<l.length):Ret prog M.afv [.str (bs l),.int .i64 i] (.int .i64 (width (l.drop i))):=by
 refine Ret.go ah aAs (by simp) fun hb w0 F0 hG=>?_
 simp only[ig,jh,ag4,LIM,and_true] at hb
 have w1:=wrap64 (n:=(i:Int)+1) (by omega) (by omega)
 have w1' : IntKind.i64.wrap ((i:Int)+1)=((i+1:Nat):Int):=by rw[w1]; omega
 have e0:l.drop i=l[i]::l.drop (i+1):=List.drop_eq_getElem_cons hi
 have tr:∀ (n:Nat) (lo hi:UInt8),1≤n→n≤3→Ret prog M.xK [.str (bs l),.int .i64 ((i+1:Nat):Int),.int .i64 n,.int .u8 lo.toNat,.int .u8 hi.toNat] (.bool (trail (l.drop (i+1)) n lo hi)):=fun n lo hi' h1 h2=>az4 l (i+1) n lo hi' h1 h2 (by omega)
 rw[e0]
 generalize hc:l[i]=c
 generalize hd:l.drop (i+1)=d at *
 by_cases h1:c<128
 ·simp[hi,hc,h1,width]
 ·have hw:width (c::d)=if 194≤c&&c≤223&&trail d 1 128 191 then 2 else (if 224≤c&&c≤239&&trail d 2 (if c == 224 then 160 else 128) (if c == 237 then 159 else 191) then 3 else if 240≤c&&c≤244&&trail d 3 (if c == 240 then 144 else 128) (if c == 244 then 143 else 191) then 4 else 0):=by
     simp only[width]; rw[if_neg h1]
  rw[hw]
  generalize hW:(if 224≤c&&c≤239&&trail d 2 (if c == 224 then 160 else 128) (if c == 237 then 159 else 191) then 3 else if 240≤c&&c≤244&&trail d 3 (if c == 240 then 144 else 128) (if c == 244 then 143 else 191) then 4 else 0)=W
  have tail:=aJK (w0:=w0) (F0:=F0) (hG:=hG) l d i c w1' tr
  rw[hW] at tail
  by_cases h2:194≤c
  ·by_cases h3:c≤223
   ·simp[hi,hc,h1,h2,h3,w1']
    refine ak.ret (tr 1 128 191 (by omega) (by omega)) ?_
    cases ht:trail d 1 128 191
    ·simp
     exact tail _ (by simp) (by simp) (by simp) (by simp) (by simp)
    ·simp
   ·simp[hi,hc,h1,h2,h3]
    exact tail _ (by simp) (by simp) (by simp) (by simp) (by simp)
  ·simp[hi,hc,h1,h2]
   exact tail _ (by simp) (by simp) (by simp) (by simp) (by simp)
end Go.Proofs.YtngjnfbngheccaaGreatDoor.Pv
set_option maxRecDepth 100000
namespace Go.Proofs.YtngjnfbngheccaaGreatDoor.Pv
open Go Go.Tidy
theorem asO (n:Nat):KR n []=true:=by cases n<;>simp[KR]
theorem azw:∀ (n m:Nat) (l:List UInt8),l.length≤n→l.length≤m→KR n l=KR m l
 | _,_,[],_,_=>by rw[asO,asO]
 | 0,_,c::l,h,_=>by simp at h
 | _,0,c::l,_,h=>by simp at h
 | n+1,m+1,c::l,h,h'=>by
   simp only[KR]
   by_cases hw:width (c::l)=0
   ·simp[hw]
   ·have h1:=azA (c::l)
    have:KR n ((c::l).drop (width (c::l)))=KR m ((c::l).drop (width (c::l))):=by
     apply azw
     ·simp only[List.length_drop] at *; omega
     ·simp only[List.length_drop] at *; omega
    rw[this]
theorem aKq {l:List UInt8} (hl:l≠[]):KR l.length l=(width l != 0&&KR (l.drop (width l)).length (l.drop (width l))):=by
 cases l with
 | nil=>exact absurd rfl hl
 | cons c l =>
   show KR (l.length+1) (c::l)=_
   simp only[KR,List.isEmpty_cons,Bool.false_or]
   by_cases hw:width (c::l)=0
   ·simp[hw]
   ·congr 1
    exact azw _ _ _ (by simp only[List.length_drop,List.length_cons]; omega) (Nat.le_refl _)
theorem aGU (a:S):Ret prog M.ajQ [.str a] (.bool (Xu a)):=by
 obtain⟨l,rfl⟩ : ∃ l,a=bs l:=⟨a.data.toList,by simp[bs]⟩
 refine Ret.go ah aHB (by simp) fun hb w0 F0 hG=>?_
 simp only[ig,jh,ag4,LIM,and_true] at hb
 have e:Xu (bs l)=KR l.length l:=by simp[Xu,bs]
 rw[e]
 simp
 obtain⟨J,hJ⟩ : ∃ J:Nat→Prop,J=fun i=>i≤l.length∧KR l.length l=KR (l.drop i).length (l.drop i):=⟨_,rfl⟩
 refine aU.go ah (fun i:Nat=>⟨[(3,.int .i64 i),(0,.str (bs l))],[]⟩) J (fun i=>l.length-i) 0 (by simp[hJ]) (by simp) fun i hj=>?_
 obtain⟨hi,hj'⟩ : i≤l.length∧KR l.length l=KR (l.drop i).length (l.drop i):=by rw[hJ] at hj; exact hj
 by_cases h1:i<l.length
 ·have hne:l.drop i≠[]:=by simp; omega
  simp[h1]
  refine ak.ret (az6 l i h1) ?_
  have hwl:=azA (l.drop i)
  simp only[List.length_drop] at hwl
  rw[aKq hne] at hj'
  by_cases hw:width (l.drop i)=0
  ·simp[hw,hj']
  ·have w1:=wrap64 (n:=(i:Int)+width (l.drop i)) (by omega) (by omega)
   have e1:((i:Int)+(width (l.drop i):Int))=((i+width (l.drop i):Nat):Int):=by omega
   simp[hw,w1]
   refine⟨i+width (l.drop i),?_,by omega,by omega⟩
   rw[hJ]
   refine⟨by omega,?_⟩
   rw[hj']
   simp[hw,Nat.add_comm]
 ·have:l.drop i=[]:=by simp; omega
  simp[h1,hj',this,asO]
theorem asX {l:List S} {i:Nat} (hi:i<l.length):iQ l=true→Xu l[i]=true∧∀ h:0<i,sLt (l[i-1]'(by omega)) l[i]=true:=by
 intro h
 induction l generalizing i with
 | nil=>simp at hi
 | cons a l ih =>
   cases l with
   | nil =>
     have:i=0:=by simp at hi; exact hi
     subst this; simp[iQ] at h; simp[h]
   | cons b l =>
     simp[iQ] at h
     cases i with
     | zero=>exact⟨h.1.1,fun h'=>absurd h' (by omega)⟩
     | succ i =>
       have:=ih (i:=i) (by simpa using hi) h.2
       refine⟨this.1,fun _=>?_⟩
       cases i with
       | zero=>exact h.1.2
       | succ j=>exact this.2 (by omega)
theorem aDZ {l:List S} (h:∀ i (hi:i<l.length),Xu l[i]=true∧∀ h:0<i,sLt (l[i-1]'(by omega)) l[i]=true):iQ l=true:=by
 induction l with
 | nil=>rfl
 | cons a l ih =>
   cases l with
   | nil=>simpa[iQ] using (h 0 (by simp)).1
   | cons b l =>
     simp only[iQ,Bool.and_eq_true]
     refine⟨⟨(h 0 (by simp)).1,(h 1 (by simp)).2 (by omega)⟩,ih fun i hi=>?_⟩
     have:=h (i+1) (by simpa using hi)
     refine⟨this.1,fun h'=>?_⟩
     have h2:=this.2 (by omega)
     cases i with
     | zero=>omega
     | succ j=>exact h2
def ahw (l:List S) (i:Nat):Prop:=∀ j (hj:j<l.length),j<i→Xu l[j]=true∧∀ h:0<j,sLt (l[j-1]'(by omega)) l[j]=true
theorem ahw.step {l:List S} {i:Nat} (h:ahw l i) (hi:i<l.length) (h1:Xu l[i]=true) (h2:∀ h:0<i,sLt (l[i-1]'(by omega)) l[i]=true):ahw l (i+1):=by
 intro j hj hlt
 by_cases e:j=i
 ·subst e; exact⟨h1,h2⟩
 ·exact h j hj (by omega)
theorem apz (l:List S):Ret prog M.ab1 [.vec 1 false (l.map encStr)] (.bool (iQ l)):=by
 refine Ret.go ah aDJ (by simp) fun hb w0 F0 hG=>?_
 simp only[ig,jh,List.length_map,LIM,and_true] at hb
 simp
 obtain⟨J,hJ⟩ : ∃ J:Nat→Unit→Prop,J=fun k _=>ahw l k:=⟨_,rfl⟩
 refine aU.cnt ah l.length (fun k _=>⟨[(3,.int .i64 k),(0,.vec 1 false (l.map encStr))],[]⟩) J () (by rw[hJ]; intro j _ h; omega) (by simp) fun k _ hk hj=>?_
 have hw:=wrap64 (n:=(k:Int)+1) (by omega) (by omega)
 have hj' : ahw l k:=by rw[hJ] at hj; exact hj
 by_cases h1:k<l.length
 ·simp[h1,hw]
  refine ak.ret (aGU l[k]) ?_
  by_cases hu:Xu l[k]=true
  ·by_cases h0:0<k
   ·have w1:=wrap64 (n:=(k:Int)-1) (by omega) (by omega)
    have e1:((k:Int)-1).toNat=k-1:=by omega
    have e2:(0:Int)≤(k:Int)-1:=by omega
    have e3:k-1<l.length:=by omega
    have e4:(k:Int)-1<l.length:=by omega
    have e5:(1:Int)≤k:=by omega
    by_cases hs:sLt l[k-1] l[k]=true
    ·have hs':=hs
     simp[hu,h0,w1,e1,e2,e3,e4,e5,h1,hs,hw]
     refine⟨(),?_⟩
     rw[hJ]
     exact hj'.step h1 hu fun _=>hs
    ·have:iQ l=false:=by
        cases hr:iQ l with
        | false=>rfl
        | true=>exact absurd ((asX h1 hr).2 h0) hs
     simp[hu,h0,w1,e1,e2,e3,e4,e5,h1,hs,this]
   ·have h0' : k=0:=by omega
    subst h0'
    have w0' : IntKind.i64.wrap 1=1:=wrap64 (by omega) (by omega)
    simp[hu,h1,w0']
    refine⟨(),?_⟩
    rw[hJ]
    exact hj'.step h1 hu fun h=>absurd h (by omega)
  ·have:iQ l=false:=by
      cases hr:iQ l with
      | false=>rfl
      | true=>exact absurd (asX h1 hr).1 hu
   simp[hu,this]
 ·have:iQ l=true:=aDZ fun i hi=>hj' i hi (by omega)
  simp[h1,this]
end Go.Proofs.YtngjnfbngheccaaGreatDoor.Pv
set_option maxRecDepth 100000
namespace Go.Proofs.YtngjnfbngheccaaGreatDoor.Pv
open Go Go.Tidy
theorem aQn {α:Type} (l:List α):(((l.length:Nat):Int) == 0)=l.isEmpty:=by cases l<;>simp<;>omega
theorem aPE {α:Type} (l:List α) [Decidable (l=[])]:decide (l=[])=l.isEmpty:=by cases l<;>simp
theorem apd (t:Ty):Ret prog M.abY [.agg (cT t)] (.bool (bare t)):=by
 refine Ret.go ah aEo (by simp) fun hb w0 F0 hG=>?_
 simp[bare,aQn,aPE]
theorem aao (t:Ty):Ret prog M.Tq [.agg (cT t)] (.bool (never t)):=by
 refine Ret.go ah aCU (by simp) fun hb w0 F0 hG=>?_
 unfold never
 cases h:t.all
 ·simp[h]
  intro v
  refine ak.ret (by have:=apd t; unfold cT at this; rw[h] at this; exact this) ?_
  simp
 ·simp[h]
theorem amW (s:S):Ret prog M.aan [.str s] (.bool (fu s)):=by
 refine Ret.go ah aBn (by simp) fun hb w0 F0 hG=>?_
 unfold fu
 cases h:eU s
 ·simp[h]
  refine ak.ret (aw4 s) ?_
  simp
 ·simp[h]
def iy {α:Type} (p:α→Bool) (l:List α) (k:Nat):Prop:=∀ j (hj:j<l.length),j<k→p l[j]=true
theorem iy.zero {α:Type} {p:α→Bool} {l:List α}:iy p l 0:=fun _ _ h=>absurd h (by omega)
theorem iy.step {α:Type} {p:α→Bool} {l:List α} {k:Nat} (h:iy p l k) (hk:k<l.length) (hp:p l[k]=true):iy p l (k+1):=fun j hj hlt=>by
 by_cases e:j=k
 ·subst e; exact hp
 ·exact h j hj (by omega)
theorem iy.all {α:Type} {p:α→Bool} {l:List α} {k:Nat} (h:iy p l k) (hk:¬ k<l.length):l.all p=true:=by
 rw[List.all_eq_true]
 intro x hx
 obtain⟨j,hj,rfl⟩:=List.getElem_of_mem hx
 exact h j hj (by omega)
theorem wZ {α:Type} {p:α→Bool} {l:List α} {k:Nat} (hk:k<l.length) (h:p l[k]=false):l.all p=false:=by
 rw[List.all_eq_false]
 exact⟨l[k],List.getElem_mem hk,by simp[h]⟩
set_option maxHeartbeats 4000000 in
theorem aAX (l:List Span):Ret prog M.afu [.vec 2 false (l.map dw)] (.bool (decide (l.length≤1)&&l.all jo)):=by
 refine Ret.go ah aBN (by simp) fun hb w0 F0 hG=>?_
 simp only[ig,jh,List.length_map,LIM,and_true] at hb
 by_cases h0:l.length≤1
 ·have h0' : ¬ (1:Int)<l.length:=by omega
  generalize hB:l.all jo=B
  obtain⟨J,hJ⟩ : ∃ J:Nat→Unit→Prop,J=fun k _=>iy jo l k:=⟨_,rfl⟩
  simp[h0,h0']
  refine aU.cnt ah l.length (fun k _=>⟨[(3,.int .i64 k),(0,.vec 2 false (l.map dw))],[]⟩) J () (by rw[hJ]; exact .zero) (by simp) fun k _ hk hj=>?_
  have hw:=wrap64 (n:=(k:Int)+1) (by omega) (by omega)
  have hj' : iy jo l k:=by rw[hJ] at hj; exact hj
  by_cases h1:k<l.length
  ·have no:jo l[k]=false→B=false:=fun h=>hB ▸ wZ h1 h
   have hs:jo l[k]=(fu l[k].low&&fu l[k].high&&(eU l[k].low||eU l[k].high||(eu l[k].low l[k].high).isLE)):=rfl
   simp[h1,hw]
   refine ak.ret (amW l[k].low) ?_
   cases b1:fu l[k].low
   ·rw[b1] at hs
    simp[no (by rw[hs]; rfl)]
   ·simp[h1]
    refine ak.ret (amW l[k].high) ?_
    cases b2:fu l[k].high
    ·rw[b1,b2] at hs
     simp[no (by rw[hs]; rfl)]
    ·rw[b1,b2] at hs
     cases e1:eU l[k].low
     ·cases e2:eU l[k].high
      ·simp (maxSteps:=10000000) [h1,hw,e1,e2]
       intros
       refine aH.ret (qD _ _ (by simpa[fu,e1] using b1) (by simpa[fu,e2] using b2)) ?_
       rw[e1,e2] at hs
       cases hc:eu l[k].low l[k].high with
       | gt =>
         rw[hc] at hs
         simp[dZ,no (by rw[hs]; rfl)]
       | lt =>
         rw[hc] at hs
         simp[dZ,hw]
         first|refine⟨(),?_⟩|refine⟨h1,(),?_⟩
         rw[hJ]; exact hj'.step h1 (by rw[hs]; rfl)
       | eq =>
         rw[hc] at hs
         simp[dZ,hw]
         first|refine⟨(),?_⟩|refine⟨h1,(),?_⟩
         rw[hJ]; exact hj'.step h1 (by rw[hs]; rfl)
      ·simp (maxSteps:=10000000) [h1,hw,e1,e2]
       first|refine⟨(),?_⟩|refine⟨h1,(),?_⟩
       rw[hJ]; exact hj'.step h1 (by rw[hs,e1,e2]; rfl)
     ·simp (maxSteps:=10000000) [h1,hw,e1]
      first|refine⟨(),?_⟩|refine⟨h1,(),?_⟩
      rw[hJ]; exact hj'.step h1 (by rw[hs,e1]; rfl)
  ·simp[h1,← hB,hj'.all h1]
 ·have h0' : (1:Int)<l.length:=by omega
  simp[h0,h0']
end Go.Proofs.YtngjnfbngheccaaGreatDoor.Pv

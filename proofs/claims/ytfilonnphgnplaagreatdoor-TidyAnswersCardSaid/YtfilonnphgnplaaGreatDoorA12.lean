/- Part 12. -/
import Derived.Test.YtfilonnphgnplaaGreatDoorA11
import Derived.Test.YtfilonnphgnplaaGreatDoorA7
set_option linter.unusedSimpArgs false
set_option linter.unusedVariables false
namespace Go.Proofs.YtfilonnphgnplaaGreatDoor.Pv
open Go Go.Tidy
def dX:Ordering→Int
 | .lt=>-1
 | .eq=>0
 | .gt=>1
@[simp] theorem aOy:dX .lt=-1:=rfl
@[simp] theorem aOu:dX .eq=0:=rfl
@[simp] theorem aOs:dX .gt=1:=rfl
theorem ji {o:Ordering}:dX o=0↔o=.eq:=by cases o<;>simp
def bs (l:List UInt8):S:=⟨l.toArray⟩
theorem akU (s:S):bs s.data.toList=s:=by unfold bs; simp
@[simp] theorem aEZ (l:List UInt8):(bs l).data.toList=l:=by simp[bs]
@[simp] theorem adI (l:List UInt8):(bs l).size=l.length:=by simp[bs,ByteArray.size]
@[simp] theorem aOC (l:List UInt8) (i:Nat):(bs l).data[i]? = l[i]? := by simp[bs]
@[simp] theorem aOA (l:List UInt8) (i:Nat) (h:i<(bs l).data.size):(bs l).data[i]=l[i]'(by simpa[bs] using h):=by simp[bs]
theorem ali {c:UInt8} (d:UInt8):((c.toNat:Int)=(d.toNat:Int))↔c=d:=by rw[Int.natCast_inj]; exact UInt8.toNat_inj
@[simp] theorem aOE {c:UInt8}:((c.toNat:Int)=45)↔c=45:=ali 45
@[simp] theorem aOD {c:UInt8}:((c.toNat:Int)=48)↔c=48:=ali 48
@[simp] theorem aOw {c:UInt8}:((c.toNat:Int)<48)↔¬ 48≤c:=by rw[UInt8.le_iff_toNat_le]; simp; omega
@[simp] theorem aOz {c:UInt8}:(57<(c.toNat:Int))↔¬ c≤57:=by rw[UInt8.le_iff_toNat_le]; simp; omega
theorem aI3 (a b:S):strLt a b=sLt a b:=rfl
theorem aI5 (a b:S):strEq a b=sEq a b:=rfl
attribute [simp] aI3 aI5
theorem adl (l:List UInt8) (a b:Nat):(bs l).extract a b=bs ((l.drop a).take (b-a)):=by
 unfold bs
 apply ByteArray.ext
 apply Array.ext'
 simp[ByteArray.data_extract,List.extract_eq_take_drop]
theorem aMn (l m:List UInt8):sEq (bs l) (bs m)=(l == m):=by simp[sEq]
theorem WO (l m:List UInt8):sEq (bs l) ⟨m.toArray⟩=(l == m):=by simp[sEq]
theorem aL7 (l m:List UInt8):sLt (bs l) (bs m)=Op.bytesLess l m:=by simp[sLt]
theorem aiQ (a b:S):Ret prog M.Uj [.str a,.str b] (.int .i64 (dX (kR a b))):=by
 refine Ret.go ah ayq (by simp) fun hb w0 F0 hG=>?_
 simp +contextual [kR]
theorem qZ (a b:Int):Ret prog M.x9 [.int .i64 a,.int .i64 b] (.int .i64 (dX (compare a b))):=by
 refine Ret.go ah aBo (by simp) fun hb w0 F0 hG=>?_
 simp +contextual
 refine⟨fun h=>by rw[aln.2 h]; rfl,fun h=>⟨fun h'=>by rw[auM.2 h']; rfl,fun h'=>by rw[aaM.2 (by omega)]; rfl⟩⟩
theorem aN2 {a b:Nat}:((a:Int)=(b:Int))↔a=b:=Int.natCast_inj
theorem atL {a b:Nat}:compare a b=.gt↔b<a:=by rw[Jk,auM]; omega
theorem Qw {a b:Nat}:compare a b=.lt↔a<b:=by rw[Jk,aln]; omega
theorem aj1 (l:List UInt8) (h:0<l.length):Ret prog M.Yx [.str (bs l)] (.tup [.bool (neg (bs l)),.str (bs (qc (bs l)))]):=by
 refine Ret.go ah aCg (by simp) fun hb w0 F0 hG=>?_
 match l,h with
 | c::l,_ =>
   simp +contextual [neg,qc,adl]
   omega
theorem amE (l m:List UInt8):Ret prog M.abk [.str (bs l),.str (bs m)] (.int .i64 (dX (qG l m))):=by
 refine Ret.go ah aDu (by simp) fun hb w0 F0 hG=>?_
 simp only[fu,gQ,adI,LIM,and_true] at hb
 simp +contextual [aL7,aMn,aN2,qG,aFU,Ordering.then]
 intro h
 rw[wrap64 (by omega) (by omega)]
 rcases Nat.lt_or_gt_of_ne h with h|h
 ·rw[Qw.2 h]; simp; repeat' split
  all_goals omega
 ·rw[atL.2 h]; simp; repeat' split
  all_goals omega
theorem aLY {l d:List UInt8} (hd:qc (bs l)=d) (h:l≠[48]):vG (bs l)=(d.all zO&&!d.isEmpty&&d.head? != some 48):=by
 unfold vG
 rw[hd]
 have:(l == [48])=false:=by simpa using h
 simp[this]
theorem anP {α:Type} {p:α→Bool} {d:List α} {i:Nat} (hi:i<d.length) (h:(d.take i).all p=true):(d.take (i+1)).all p=p d[i]:=by
 rw[List.take_add_one,List.getElem?_eq_getElem hi]
 simp only[Option.toList_some,List.all_append,h,List.all_cons,List.all_nil,Bool.and_true,Bool.true_and]
theorem all_false {α:Type} {p:α→Bool} {d:List α} {i:Nat} (hi:i<d.length) (h:p d[i]=false):d.all p=false:=by
 rw[List.all_eq_false]
 exact⟨d[i],List.getElem_mem hi,by simp[h]⟩
theorem abp {c:UInt8}:zO c=true↔48≤c∧c≤57:=by simp[zO]
theorem Ah (s:S):Ret prog M.Aj [.str s] (.bool (vG s)):=by
 obtain⟨l,rfl⟩ : ∃ l,s=bs l:=⟨_,(akU s).symm⟩
 refine Ret.go ah ay2 (by simp) fun hb w0 F0 hG=>?_
 simp only[fu,gQ,adI,LIM,and_true] at hb
 simp +contextual [WO]
 refine⟨fun h=>?_,fun h=>?_⟩
 ·subst h; decide
 ·refine bQ.one ah ⟨[(0,.str (bs (qc (bs l)))),(2,.bool false)],[]⟩ ?_ ?_
  ·match l with
   | []=>simp +contextual [WO,qc,neg]
   | c::m=>simp +contextual [WO,qc,neg,adl]; omega
  ·have hdl:(qc (bs l)).length≤l.length:=by unfold qc; split<;>simp
   generalize hd:qc (bs l)=d at hdl
   rw[aLY hd h]
   match d with
   | []=>simp +contextual [WO]
   | c::m =>
     simp +contextual [WO]
     intro hc
     have hn:(c::m).length≤140737488355328:=by omega
     have hc' : (some c != some (48:UInt8))=true:=by simpa using hc
     rw[hc',Bool.and_true]
     have e:(zO c&&m.all zO)=(c::m).all zO:=by simp
     rw[e]
     obtain⟨J,hJ⟩ : ∃ J:Nat→Unit→Prop,J=fun i _=>((c::m).take i).all zO=true:=⟨_,rfl⟩
     refine aU.cnt ah (c::m).length (fun i _=>⟨[(24,.int .i64 i),(23,.int .i64 (c::m).length),(0,.str (bs (c::m))),(2,.bool false)],[]⟩) J () (by rw[hJ]; rfl) (by simp) fun i _ hi hj=>?_
     clear e hdl hd hc hc'
     generalize c::m=l1 at *
     have hw:=wrap64 (n:=(i:Int)+1) (by omega) (by omega)
     by_cases h1:i<l1.length
     ·by_cases hd' : zO l1[i]=true
      ·obtain⟨k1,k2⟩:=abp.1 hd'
       simp +contextual [h1,hw,k1,k2,UInt8.not_lt.2 k1,UInt8.not_lt.2 k2]
       refine⟨(),?_⟩
       subst hJ
       show (l1.take (i+1)).all zO=true
       rw[anP h1 hj]; exact hd'
      ·have k1:∃ x,x∈l1∧zO x=false:=⟨_,List.getElem_mem h1,by simpa using hd'⟩
       have k2:48≤l1[i]→¬ l1[i]≤57:=fun h h'=>hd' (abp.2 ⟨h,h'⟩)
       simp +contextual [h1,hw,k1,k2]
     ·have:i=l1.length:=by omega
      subst hJ
      have hj1:(l1.take i).all zO=true:=hj
      simp only[this,List.take_length,List.all_eq_true] at hj1
      simp +contextual [h1]
      exact hj1
theorem aia {a:S} (h:vG a=true):∃ l,a=bs l∧0<l.length:=by
 refine⟨a.data.toList,(akU a).symm,?_⟩
 rcases Nat.eq_zero_or_pos a.data.toList.length with h0|h0
 ·have:a.data.toList=[]:=List.eq_nil_of_length_eq_zero h0
  simp[vG,qc,neg,this] at h
 ·exact h0
theorem ac7 (a b:S):Ret prog M.QC [.str a,.str b] (.tup [.int .i64 (if vG a&&vG b then dX (fQ a b) else 0),.int .i64 (if vG a&&vG b then 0 else 1)]):=by
 refine Ret.go ah aGH (by simp) fun hb w0 F0 hG=>?_
 simp
 refine aj.ret (Ah a) ?_
 cases ha:vG a
 ·simp
 ·simp
  refine aj.ret (Ah b) ?_
  cases hb' : vG b
  ·simp
  ·obtain⟨l,rfl,hl⟩:=aia ha
   obtain⟨m,rfl,hm⟩:=aia hb'
   simp
   refine aj.ret (aj1 l hl) ?_
   simp
   refine aj.ret (aj1 m hm) ?_
   unfold fQ
   cases neg (bs l)<;>cases neg (bs m)<;>simp
   ·refine aj.ret (amE _ _) ?_
    simp
   ·refine aj.ret (amE _ _) ?_
    simp
def aby (a b:S):Int:=if vG a&&vG b then dX (fQ a b) else 0
theorem aiL (a b:S):Ret prog M.Um [.str a,.str b] (.int .i64 (aby a b)):=by
 refine Ret.go ah ayR (by simp) fun hb w0 F0 hG=>?_
 simp
 refine aj.ret (ac7 a b) ?_
 simp[aby]
theorem abY (a b:S):Ret prog M.JR [.str a,.str b] (.int .i64 (aby a b)):=by
 refine Ret.go ah awc (by simp) fun hb w0 F0 hG=>?_
 simp
 refine aj.ret (ac7 a b) ?_
 simp[aby]
end Go.Proofs.YtfilonnphgnplaaGreatDoor.Pv
namespace Go.Proofs.YtfilonnphgnplaaGreatDoor.Pv
open Go Go.Tidy
section
variable {α:Type} {g:α→α→Ordering} {a b:List α} {i:Nat}
theorem lq (h1:i<a.length) (h2:i<b.length):dx g (a.drop i) (b.drop i)=(g a[i] b[i]).then (dx g (a.drop (i+1)) (b.drop (i+1))):=by
 rw[List.drop_eq_getElem_cons h1,List.drop_eq_getElem_cons h2]; rfl
theorem adS (h1:i<a.length) (h2:b.length≤i):dx g (a.drop i) (b.drop i)=.gt:=by
 rw[List.drop_eq_getElem_cons h1,List.drop_eq_nil_of_le h2]; rfl
theorem aK3 (h1:a.length≤i) (h2:i≤b.length) (h3:i≤a.length):dx g (a.drop i) (b.drop i)=compare a.length b.length:=by
 rw[List.drop_eq_nil_of_le h1]
 by_cases h:i<b.length
 ·rw[List.drop_eq_getElem_cons h,Qw.2 (by omega)]; rfl
 ·rw[List.drop_eq_nil_of_le (by omega),Qo.2 (by omega)]; rfl
theorem uj (h1:i≤a.length) (h2:i≤b.length) (h:a.length≤i∨b.length≤i):dx g (a.drop i) (b.drop i)=compare a.length b.length:=by
 by_cases ha:a.length≤i
 ·exact aK3 ha h2 h1
 ·rw[adS (by omega) (by omega),atL.2 (by omega)]
end
theorem afo (a b:Nat):compare (a:Int) (b:Int)=compare a b:=(Jk a b).symm
theorem kr {p q:Ordering} (h:p≠.eq):p.then q=p:=by cases p<;>simp_all [Ordering.then]
theorem xW {p q:Ordering} (h:p=.eq):p.then q=q:=by subst h; rfl
theorem aiI (a b:List S):Ret prog M.UG [.vec 1 false (a.map encStr),.vec 1 false (b.map encStr)] (.int .i64 (dX (dx kR a b))):=by
 refine Ret.go ah ayP (by simp) fun hb w0 F0 hG=>?_
 simp only[fu,gQ,List.length_map,LIM,and_true] at hb
 simp +contextual
 obtain⟨J,hJ⟩ : ∃ J:Nat→Unit→Prop,J=fun i _=>i≤b.length∧dx kR a b=dx kR (a.drop i) (b.drop i):=⟨_,rfl⟩
 refine aU.cnt ah a.length (fun i _=>⟨[(5,.int .i64 i),(0,.vec 1 false (a.map encStr)),(1,.vec 1 false (b.map encStr))],[]⟩) J () (by simp[hJ]) (by simp) fun i _ hi hj=>?_
 have hw:=wrap64 (n:=(i:Int)+1) (by omega) (by omega)
 have hj' : i≤b.length∧dx kR a b=dx kR (a.drop i) (b.drop i):=by subst hJ; exact hj
 by_cases h1:i<a.length
 ·by_cases h2:i<b.length
  ·simp +contextual [h1,h2,hw]
   intro v
   refine aH.ret (aiQ a[i] b[i]) ?_
   simp +contextual [hw,h1,ji]
   rw[hj'.2,lq h1 h2]
   refine⟨fun h=>by rw[kr h],fun h=>⟨(),?_⟩⟩
   subst hJ
   exact⟨h2,by rw[hj'.2,lq h1 h2,xW h]⟩
  ·simp +contextual [h1,h2]
   refine aj.ret (qZ _ _) ?_
   simp +contextual
   rw[afo,hj'.2,uj hi hj'.1 (by omega)]
 ·simp +contextual [h1]
  refine aj.ret (qZ _ _) ?_
  simp +contextual
  rw[afo,hj'.2,uj hi hj'.1 (by omega)]
end Go.Proofs.YtfilonnphgnplaaGreatDoor.Pv
namespace Go.Proofs.YtfilonnphgnplaaGreatDoor.Pv
open Go Go.Tidy
theorem afd (a:Int):Ret prog M.Nk [.int .i64 a] (.bool false):=by
 refine Ret.go ah apv (by simp) fun hb w0 F0 hG=>?_
 simp
theorem Ou (a:S):Ret prog M.sj [.str a] (.bool false):=by
 refine Ret.go ah ak7 (by simp) fun hb w0 F0 hG=>?_
 simp[qo.2]
theorem acY (a b:Int):Ret prog M.DX [.int .i64 a,.int .i64 b] (.int .i64 (dX (compare a b))):=by
 refine Ret.go ah alY (by simp) fun hb w0 F0 hG=>?_
 simp
 refine aj.ret (afd a) ?_
 simp
 refine aj.ret (afd b) ?_
 simp +contextual
 refine⟨fun h=>by rw[aln.2 h]; rfl,fun h=>⟨fun h'=>by rw[auM.2 h']; rfl,fun h'=>by rw[aaM.2 (by omega)]; rfl⟩⟩
theorem ahf (a b:S):Ret prog M.Jq [.str a,.str b] (.int .i64 (dX (kR a b))):=by
 refine Ret.go ah ahT (by simp) fun hb w0 F0 hG=>?_
 simp
 refine aj.ret (Ou a) ?_
 simp
 refine aj.ret (Ou b) ?_
 simp +contextual [kR]
theorem QM (a b:List S):Ret prog M.vK [.vec 1 false (a.map encStr),.vec 1 false (b.map encStr)] (.int .i64 (dX (dx kR a b))):=by
 refine Ret.go ah ae2 (by simp) fun hb w0 F0 hG=>?_
 simp only[fu,gQ,List.length_map,LIM,and_true] at hb
 simp
 obtain⟨J,hJ⟩ : ∃ J:Nat→Unit→Prop,J=fun i _=>i≤b.length∧dx kR a b=dx kR (a.drop i) (b.drop i):=⟨_,rfl⟩
 refine aU.cnt ah a.length (fun i _=>⟨[(11,.int .i64 i),(10,.int .i64 a.length),(9,.vec 1 false (a.map encStr)),(0,.vec 1 false (a.map encStr)),(1,.vec 1 false (b.map encStr))],[]⟩) J () (by simp[hJ]) (by simp) fun i _ hi hj=>?_
 have hw:=wrap64 (n:=(i:Int)+1) (by omega) (by omega)
 have hj' : i≤b.length∧dx kR a b=dx kR (a.drop i) (b.drop i):=by subst hJ; exact hj
 by_cases h1:i<a.length
 ·by_cases h2:i<b.length
  ·have h2' : ¬ b.length≤i:=by omega
   simp[h1,h2,h2',hw]
   refine aj.ret (ahf a[i] b[i]) ?_
   simp[hw,h1,h2,ji]
   rw[hj'.2,lq h1 h2]
   refine⟨fun h=>by rw[kr h],fun h=>⟨(),?_⟩⟩
   subst hJ
   exact⟨h2,by rw[hj'.2,lq h1 h2,xW h]⟩
  ·have h2' : b.length≤i:=by omega
   simp[h1,h2,h2']
   rw[hj'.2,adS h1 h2']; rfl
 ·simp[h1]
  rw[hj'.2,uj hi hj'.1 (by omega)]
  refine⟨fun h=>by rw[Qw.2 (by omega)]; rfl,fun h=>by rw[Qo.2 (by omega)]; rfl⟩
theorem adn (fid:Nat) (g:Span→Span→Ordering) (a b:List Span) (hf:∀ x∈a,∀ y∈b,Ret prog fid [.agg (dH x),.agg (dH y)] (.int .i64 (dX (g x y)))):Ret prog M.zi [.vec 2 false (a.map dH),.vec 2 false (b.map dH),.fn fid [] []] (.int .i64 (dX (dx g a b))):=by
 refine Ret.go ah adv (by simp) fun hb w0 F0 hG=>?_
 simp only[fu,gQ,List.length_map,LIM,and_true] at hb
 simp
 obtain⟨J,hJ⟩ : ∃ J:Nat→Unit→Prop,J=fun i _=>i≤b.length∧dx g a b=dx g (a.drop i) (b.drop i):=⟨_,rfl⟩
 refine aU.cnt ah a.length (fun i _=>⟨[(13,.int .i64 i),(12,.int .i64 a.length),(11,.vec 2 false (a.map dH)),(0,.vec 2 false (a.map dH)),(1,.vec 2 false (b.map dH)),(2,.fn fid [] [])],[]⟩) J () (by simp[hJ]) (by simp) fun i _ hi hj=>?_
 have hw:=wrap64 (n:=(i:Int)+1) (by omega) (by omega)
 have hj' : i≤b.length∧dx g a b=dx g (a.drop i) (b.drop i):=by subst hJ; exact hj
 by_cases h1:i<a.length
 ·by_cases h2:i<b.length
  ·have h2' : ¬ b.length≤i:=by omega
   simp[h1,h2,h2',hw]
   intros
   refine aj.ret (hf _ (List.getElem_mem h1) _ (List.getElem_mem h2)) ?_
   simp[hw,h1,h2,ji]
   rw[hj'.2,lq h1 h2]
   refine⟨fun h=>by rw[kr h],fun h=>⟨(),?_⟩⟩
   subst hJ
   exact⟨h2,by rw[hj'.2,lq h1 h2,xW h]⟩
  ·have h2' : b.length≤i:=by omega
   simp[h1,h2,h2']
   rw[hj'.2,adS h1 h2']; rfl
 ·simp[h1]
  rw[hj'.2,uj hi hj'.1 (by omega)]
  refine⟨fun h=>by rw[Qw.2 (by omega)]; rfl,fun h=>by rw[Qo.2 (by omega)]; rfl⟩
theorem adV (fid:Nat) (g:Arr→Arr→Ordering) (a b:List Arr) (hf:∀ x∈a,∀ y∈b,Ret prog fid [.agg (cA x),.agg (cA y)] (.int .i64 (dX (g x y)))):Ret prog M.zI [.vec 11 false (a.map dh),.vec 11 false (b.map dh),.fn fid [] []] (.int .i64 (dX (dx g a b))):=by
 refine Ret.go ah aed (by simp) fun hb w0 F0 hG=>?_
 simp only[fu,gQ,List.length_map,LIM,and_true] at hb
 simp
 obtain⟨J,hJ⟩ : ∃ J:Nat→Unit→Prop,J=fun i _=>i≤b.length∧dx g a b=dx g (a.drop i) (b.drop i):=⟨_,rfl⟩
 refine aU.cnt ah a.length (fun i _=>⟨[(13,.int .i64 i),(12,.int .i64 a.length),(11,.vec 11 false (a.map dh)),(0,.vec 11 false (a.map dh)),(1,.vec 11 false (b.map dh)),(2,.fn fid [] [])],[]⟩) J () (by simp[hJ]) (by simp) fun i _ hi hj=>?_
 have hw:=wrap64 (n:=(i:Int)+1) (by omega) (by omega)
 have hj' : i≤b.length∧dx g a b=dx g (a.drop i) (b.drop i):=by subst hJ; exact hj
 by_cases h1:i<a.length
 ·by_cases h2:i<b.length
  ·have h2' : ¬ b.length≤i:=by omega
   simp[h1,h2,h2',hw]
   intros
   refine aj.ret (hf _ (List.getElem_mem h1) _ (List.getElem_mem h2)) ?_
   simp[hw,h1,h2,ji]
   rw[hj'.2,lq h1 h2]
   refine⟨fun h=>by rw[kr h],fun h=>⟨(),?_⟩⟩
   subst hJ
   exact⟨h2,by rw[hj'.2,lq h1 h2,xW h]⟩
  ·have h2' : b.length≤i:=by omega
   simp[h1,h2,h2']
   rw[hj'.2,adS h1 h2']; rfl
 ·simp[h1]
  rw[hj'.2,uj hi hj'.1 (by omega)]
  refine⟨fun h=>by rw[Qw.2 (by omega)]; rfl,fun h=>by rw[Qo.2 (by omega)]; rfl⟩
theorem aep (fid:Nat) (g:Ob→Ob→Ordering) (a b:List Ob) (hf:∀ x∈a,∀ y∈b,Ret prog fid [.agg (cO x),.agg (cO y)] (.int .i64 (dX (g x y)))):Ret prog M.zF [.vec 12 false (a.map av),.vec 12 false (b.map av),.fn fid [] []] (.int .i64 (dX (dx g a b))):=by
 refine Ret.go ah aez (by simp) fun hb w0 F0 hG=>?_
 simp only[fu,gQ,List.length_map,LIM,and_true] at hb
 simp
 obtain⟨J,hJ⟩ : ∃ J:Nat→Unit→Prop,J=fun i _=>i≤b.length∧dx g a b=dx g (a.drop i) (b.drop i):=⟨_,rfl⟩
 refine aU.cnt ah a.length (fun i _=>⟨[(13,.int .i64 i),(12,.int .i64 a.length),(11,.vec 12 false (a.map av)),(0,.vec 12 false (a.map av)),(1,.vec 12 false (b.map av)),(2,.fn fid [] [])],[]⟩) J () (by simp[hJ]) (by simp) fun i _ hi hj=>?_
 have hw:=wrap64 (n:=(i:Int)+1) (by omega) (by omega)
 have hj' : i≤b.length∧dx g a b=dx g (a.drop i) (b.drop i):=by subst hJ; exact hj
 by_cases h1:i<a.length
 ·by_cases h2:i<b.length
  ·have h2' : ¬ b.length≤i:=by omega
   simp[h1,h2,h2',hw]
   intros
   refine aj.ret (hf _ (List.getElem_mem h1) _ (List.getElem_mem h2)) ?_
   simp[hw,h1,h2,ji]
   rw[hj'.2,lq h1 h2]
   refine⟨fun h=>by rw[kr h],fun h=>⟨(),?_⟩⟩
   subst hJ
   exact⟨h2,by rw[hj'.2,lq h1 h2,xW h]⟩
  ·have h2' : b.length≤i:=by omega
   simp[h1,h2,h2']
   rw[hj'.2,adS h1 h2']; rfl
 ·simp[h1]
  rw[hj'.2,uj hi hj'.1 (by omega)]
  refine⟨fun h=>by rw[Qw.2 (by omega)]; rfl,fun h=>by rw[Qo.2 (by omega)]; rfl⟩
theorem ac5 (fid:Nat) (g:Ty→Ty→Ordering) (a b:List Ty) (hf:∀ x∈a,∀ y∈b,Ret prog fid [.agg (cT x),.agg (cT y)] (.int .i64 (dX (g x y)))):Ret prog M.y8 [.vec 9 false (a.map eU),.vec 9 false (b.map eU),.fn fid [] []] (.int .i64 (dX (dx g a b))):=by
 refine Ret.go ah ac4 (by simp) fun hb w0 F0 hG=>?_
 simp only[fu,gQ,List.length_map,LIM,and_true] at hb
 simp
 obtain⟨J,hJ⟩ : ∃ J:Nat→Unit→Prop,J=fun i _=>i≤b.length∧dx g a b=dx g (a.drop i) (b.drop i):=⟨_,rfl⟩
 refine aU.cnt ah a.length (fun i _=>⟨[(13,.int .i64 i),(12,.int .i64 a.length),(11,.vec 9 false (a.map eU)),(0,.vec 9 false (a.map eU)),(1,.vec 9 false (b.map eU)),(2,.fn fid [] [])],[]⟩) J () (by simp[hJ]) (by simp) fun i _ hi hj=>?_
 have hw:=wrap64 (n:=(i:Int)+1) (by omega) (by omega)
 have hj' : i≤b.length∧dx g a b=dx g (a.drop i) (b.drop i):=by subst hJ; exact hj
 by_cases h1:i<a.length
 ·by_cases h2:i<b.length
  ·have h2' : ¬ b.length≤i:=by omega
   simp[h1,h2,h2',hw]
   intros
   refine aj.ret (hf _ (List.getElem_mem h1) _ (List.getElem_mem h2)) ?_
   simp[hw,h1,h2,ji]
   rw[hj'.2,lq h1 h2]
   refine⟨fun h=>by rw[kr h],fun h=>⟨(),?_⟩⟩
   subst hJ
   exact⟨h2,by rw[hj'.2,lq h1 h2,xW h]⟩
  ·have h2' : b.length≤i:=by omega
   simp[h1,h2,h2']
   rw[hj'.2,adS h1 h2']; rfl
 ·simp[h1]
  rw[hj'.2,uj hi hj'.1 (by omega)]
  refine⟨fun h=>by rw[Qw.2 (by omega)]; rfl,fun h=>by rw[Qo.2 (by omega)]; rfl⟩
theorem ac2 (fid:Nat) (g:Bool→Bool→Ordering) (a b:List Bool) (hf:∀ x∈a,∀ y∈b,Ret prog fid [.bool x,.bool y] (.int .i64 (dX (g x y)))):Ret prog M.zh [.vec 1 false (a.map jH),.vec 1 false (b.map jH),.fn fid [] []] (.int .i64 (dX (dx g a b))):=by
 refine Ret.go ah adj (by simp) fun hb w0 F0 hG=>?_
 simp only[fu,gQ,List.length_map,LIM,and_true] at hb
 simp
 obtain⟨J,hJ⟩ : ∃ J:Nat→Unit→Prop,J=fun i _=>i≤b.length∧dx g a b=dx g (a.drop i) (b.drop i):=⟨_,rfl⟩
 refine aU.cnt ah a.length (fun i _=>⟨[(13,.int .i64 i),(12,.int .i64 a.length),(11,.vec 1 false (a.map jH)),(0,.vec 1 false (a.map jH)),(1,.vec 1 false (b.map jH)),(2,.fn fid [] [])],[]⟩) J () (by simp[hJ]) (by simp) fun i _ hi hj=>?_
 have hw:=wrap64 (n:=(i:Int)+1) (by omega) (by omega)
 have hj' : i≤b.length∧dx g a b=dx g (a.drop i) (b.drop i):=by subst hJ; exact hj
 by_cases h1:i<a.length
 ·by_cases h2:i<b.length
  ·have h2' : ¬ b.length≤i:=by omega
   simp[h1,h2,h2',hw]
   intros
   refine aj.ret (hf _ (List.getElem_mem h1) _ (List.getElem_mem h2)) ?_
   simp[hw,h1,h2,ji]
   rw[hj'.2,lq h1 h2]
   refine⟨fun h=>by rw[kr h],fun h=>⟨(),?_⟩⟩
   subst hJ
   exact⟨h2,by rw[hj'.2,lq h1 h2,xW h]⟩
  ·have h2' : b.length≤i:=by omega
   simp[h1,h2,h2']
   rw[hj'.2,adS h1 h2']; rfl
 ·simp[h1]
  rw[hj'.2,uj hi hj'.1 (by omega)]
  refine⟨fun h=>by rw[Qw.2 (by omega)]; rfl,fun h=>by rw[Qo.2 (by omega)]; rfl⟩
end Go.Proofs.YtfilonnphgnplaaGreatDoor.Pv
namespace Go.Proofs.YtfilonnphgnplaaGreatDoor.Pv
open Go Go.Tidy
open Classical in
noncomputable def eqv {α:Type} (a b:α):Bool:=decide (a=b)
theorem jr {α:Type} {a b:α} (h:a=b):eqv a b=true:=by simp[eqv,h]
theorem iq {α:Type} {a b:α} (h:a≠b):eqv a b=false:=by simp[eqv,h]
theorem alq {α:Type} {a b:α}:eqv a b=true↔a=b:=by simp[eqv]
theorem adL {α:Type} {a b:List α} {i:Nat} (h1:i<a.length) (h2:i<b.length) (h:a.take i=b.take i) (he:a[i]=b[i]):a.take (i+1)=b.take (i+1):=by
 rw[List.take_add_one,List.take_add_one,h,List.getElem?_eq_getElem h1,List.getElem?_eq_getElem h2,he]
theorem alB {α:Type} {a b:List α} {i:Nat} (h1:i<a.length) (h2:i<b.length) (he:a[i]≠b[i]):a≠b:=fun h=>by subst h; exact he rfl
theorem acW (a b:List S):Ret prog M.D9 [.vec 1 false (a.map encStr),.vec 1 false (b.map encStr)] (.bool (eqv a b)):=by
 refine Ret.go ah amh (by simp) fun hb w0 F0 hG=>?_
 simp only[fu,gQ,List.length_map,LIM,and_true] at hb
 by_cases hl:a.length=b.length
 ·simp[hl]
  obtain⟨J,hJ⟩ : ∃ J:Nat→Unit→Prop,J=fun i _=>a.take i=b.take i:=⟨_,rfl⟩
  refine aU.cnt ah a.length (fun i _=>⟨[(5,.int .i64 i),(0,.vec 1 false (a.map encStr)),(1,.vec 1 false (b.map encStr)),(4,.bool false)],[]⟩) J () (by simp[hJ]) (by simp) fun i _ hi hj=>?_
  have hw:=wrap64 (n:=(i:Int)+1) (by omega) (by omega)
  have hj' : a.take i=b.take i:=by subst hJ; exact hj
  by_cases h1:i<a.length
  ·have h2:i<b.length:=by omega
   simp[h1,h2,hl ▸ h1,hw]
   exact⟨fun h=>iq (alB h1 h2 (fun e=>by rw[qo.2 e] at h; cases h)),fun h=>⟨(),by subst hJ; exact adL h1 h2 hj' (qo.1 h)⟩⟩
  ·have e:i=a.length:=by omega
   subst e
   rw[List.take_length,hl,List.take_length] at hj'
   simp[hl]
   exact jr hj'
 ·have:a≠b:=fun h=>hl (by rw[h])
  have hl' : ¬ ((a.length:Int)=b.length):=by omega
  simp[hl',iq this]
theorem aoF (a b:List Bool):Ret prog M.Yg [.vec 1 false (a.map jH),.vec 1 false (b.map jH)] (.bool (eqv a b)):=by
 refine Ret.go ah aoV (by simp) fun hb w0 F0 hG=>?_
 simp only[fu,gQ,List.length_map,LIM,and_true] at hb
 by_cases hl:a.length=b.length
 ·simp[hl]
  obtain⟨J,hJ⟩ : ∃ J:Nat→Unit→Prop,J=fun i _=>a.take i=b.take i:=⟨_,rfl⟩
  refine aU.cnt ah a.length (fun i _=>⟨[(5,.int .i64 i),(0,.vec 1 false (a.map jH)),(1,.vec 1 false (b.map jH)),(4,.bool false)],[]⟩) J () (by simp[hJ]) (by simp) fun i _ hi hj=>?_
  have hw:=wrap64 (n:=(i:Int)+1) (by omega) (by omega)
  have hj' : a.take i=b.take i:=by subst hJ; exact hj
  by_cases h1:i<a.length
  ·have h2:i<b.length:=by omega
   simp[h1,h2,hl ▸ h1,hw]
   exact⟨fun h=>iq (alB h1 h2 h),fun h=>⟨(),by subst hJ; exact adL h1 h2 hj' h⟩⟩
  ·have e:i=a.length:=by omega
   subst e
   rw[List.take_length,hl,List.take_length] at hj'
   simp[hl]
   exact jr hj'
 ·have:a≠b:=fun h=>hl (by rw[h])
  have hl' : ¬ ((a.length:Int)=b.length):=by omega
  simp[hl',iq this]
theorem aq6 (a b:List Span) (hf:∀ x∈a,∀ y∈b,Ret prog M.QH [.agg (dH x),.agg (dH y)] (.bool (eqv x y))):Ret prog M.Zu [.vec 2 false (a.map dH),.vec 2 false (b.map dH)] (.bool (eqv a b)):=by
 refine Ret.go ah ao7 (by simp) fun hb w0 F0 hG=>?_
 simp only[fu,gQ,List.length_map,LIM,and_true] at hb
 by_cases hl:a.length=b.length
 ·simp[hl]
  obtain⟨J,hJ⟩ : ∃ J:Nat→Unit→Prop,J=fun i _=>a.take i=b.take i:=⟨_,rfl⟩
  refine aU.cnt ah a.length (fun i _=>⟨[(5,.int .i64 i),(0,.vec 2 false (a.map dH)),(1,.vec 2 false (b.map dH)),(4,.bool false)],[]⟩) J () (by simp[hJ]) (by simp) fun i _ hi hj=>?_
  have hw:=wrap64 (n:=(i:Int)+1) (by omega) (by omega)
  have hj' : a.take i=b.take i:=by subst hJ; exact hj
  by_cases h1:i<a.length
  ·have h2:i<b.length:=by omega
   simp[h1,h2,hl ▸ h1,hw]
   intro v
   refine aH.ret (hf _ (List.getElem_mem h1) _ (List.getElem_mem h2)) ?_
   simp[h1,h2,hl ▸ h1,hw]
   exact⟨fun h=>iq (alB h1 h2 (fun e=>by rw[jr e] at h; cases h)),fun h=>⟨(),by subst hJ; exact adL h1 h2 hj' (alq.1 h)⟩⟩
  ·have e:i=a.length:=by omega
   subst e
   rw[List.take_length,hl,List.take_length] at hj'
   simp[hl]
   exact jr hj'
 ·have:a≠b:=fun h=>hl (by rw[h])
  have hl' : ¬ ((a.length:Int)=b.length):=by omega
  simp[hl',iq this]
theorem asU (a b:List Arr) (hf:∀ x∈a,∀ y∈b,Ret prog M.UF [.agg (cA x),.agg (cA y)] (.bool (eqv x y))):Ret prog M.aaZ [.vec 11 false (a.map dh),.vec 11 false (b.map dh)] (.bool (eqv a b)):=by
 refine Ret.go ah at5 (by simp) fun hb w0 F0 hG=>?_
 simp only[fu,gQ,List.length_map,LIM,and_true] at hb
 by_cases hl:a.length=b.length
 ·simp[hl]
  obtain⟨J,hJ⟩ : ∃ J:Nat→Unit→Prop,J=fun i _=>a.take i=b.take i:=⟨_,rfl⟩
  refine aU.cnt ah a.length (fun i _=>⟨[(5,.int .i64 i),(0,.vec 11 false (a.map dh)),(1,.vec 11 false (b.map dh)),(4,.bool false)],[]⟩) J () (by simp[hJ]) (by simp) fun i _ hi hj=>?_
  have hw:=wrap64 (n:=(i:Int)+1) (by omega) (by omega)
  have hj' : a.take i=b.take i:=by subst hJ; exact hj
  by_cases h1:i<a.length
  ·have h2:i<b.length:=by omega
   simp[h1,h2,hl ▸ h1,hw]
   intro v
   refine aH.ret (hf _ (List.getElem_mem h1) _ (List.getElem_mem h2)) ?_
   simp[h1,h2,hl ▸ h1,hw]
   exact⟨fun h=>iq (alB h1 h2 (fun e=>by rw[jr e] at h; cases h)),fun h=>⟨(),by subst hJ; exact adL h1 h2 hj' (alq.1 h)⟩⟩
  ·have e:i=a.length:=by omega
   subst e
   rw[List.take_length,hl,List.take_length] at hj'
   simp[hl]
   exact jr hj'
 ·have:a≠b:=fun h=>hl (by rw[h])
  have hl' : ¬ ((a.length:Int)=b.length):=by omega
  simp[hl',iq this]
theorem arK (a b:List Ob) (hf:∀ x∈a,∀ y∈b,Ret prog M.UO [.agg (cO x),.agg (cO y)] (.bool (eqv x y))):Ret prog M.aaG [.vec 12 false (a.map av),.vec 12 false (b.map av)] (.bool (eqv a b)):=by
 refine Ret.go ah atZ (by simp) fun hb w0 F0 hG=>?_
 simp only[fu,gQ,List.length_map,LIM,and_true] at hb
 by_cases hl:a.length=b.length
 ·simp[hl]
  obtain⟨J,hJ⟩ : ∃ J:Nat→Unit→Prop,J=fun i _=>a.take i=b.take i:=⟨_,rfl⟩
  refine aU.cnt ah a.length (fun i _=>⟨[(5,.int .i64 i),(0,.vec 12 false (a.map av)),(1,.vec 12 false (b.map av)),(4,.bool false)],[]⟩) J () (by simp[hJ]) (by simp) fun i _ hi hj=>?_
  have hw:=wrap64 (n:=(i:Int)+1) (by omega) (by omega)
  have hj' : a.take i=b.take i:=by subst hJ; exact hj
  by_cases h1:i<a.length
  ·have h2:i<b.length:=by omega
   simp[h1,h2,hl ▸ h1,hw]
   intro v
   refine aH.ret (hf _ (List.getElem_mem h1) _ (List.getElem_mem h2)) ?_
   simp[h1,h2,hl ▸ h1,hw]
   exact⟨fun h=>iq (alB h1 h2 (fun e=>by rw[jr e] at h; cases h)),fun h=>⟨(),by subst hJ; exact adL h1 h2 hj' (alq.1 h)⟩⟩
  ·have e:i=a.length:=by omega
   subst e
   rw[List.take_length,hl,List.take_length] at hj'
   simp[hl]
   exact jr hj'
 ·have:a≠b:=fun h=>hl (by rw[h])
  have hl' : ¬ ((a.length:Int)=b.length):=by omega
  simp[hl',iq this]
theorem ao0 (a b:List Ty) (hf:∀ x∈a,∀ y∈b,Ret prog M.oW [.agg (cT x),.agg (cT y)] (.bool (eqv x y))):Ret prog M.Zh [.vec 9 false (a.map eU),.vec 9 false (b.map eU)] (.bool (eqv a b)):=by
 refine Ret.go ah arb (by simp) fun hb w0 F0 hG=>?_
 simp only[fu,gQ,List.length_map,LIM,and_true] at hb
 by_cases hl:a.length=b.length
 ·simp[hl]
  obtain⟨J,hJ⟩ : ∃ J:Nat→Unit→Prop,J=fun i _=>a.take i=b.take i:=⟨_,rfl⟩
  refine aU.cnt ah a.length (fun i _=>⟨[(5,.int .i64 i),(0,.vec 9 false (a.map eU)),(1,.vec 9 false (b.map eU)),(4,.bool false)],[]⟩) J () (by simp[hJ]) (by simp) fun i _ hi hj=>?_
  have hw:=wrap64 (n:=(i:Int)+1) (by omega) (by omega)
  have hj' : a.take i=b.take i:=by subst hJ; exact hj
  by_cases h1:i<a.length
  ·have h2:i<b.length:=by omega
   simp[h1,h2,hl ▸ h1,hw]
   intro v
   refine aH.ret (hf _ (List.getElem_mem h1) _ (List.getElem_mem h2)) ?_
   simp[h1,h2,hl ▸ h1,hw]
   exact⟨fun h=>iq (alB h1 h2 (fun e=>by rw[jr e] at h; cases h)),fun h=>⟨(),by subst hJ; exact adL h1 h2 hj' (alq.1 h)⟩⟩
  ·have e:i=a.length:=by omega
   subst e
   rw[List.take_length,hl,List.take_length] at hj'
   simp[hl]
   exact jr hj'
 ·have:a≠b:=fun h=>hl (by rw[h])
  have hl' : ¬ ((a.length:Int)=b.length):=by omega
  simp[hl',iq this]
theorem atb (a b:Span):Ret prog M.QH [.agg (dH a),.agg (dH b)] (.bool (eqv a b)):=by
 refine Ret.go ah atQ (by simp) fun hb w0 F0 hG=>?_
 obtain⟨a1,a2⟩:=a
 obtain⟨b1,b2⟩:=b
 by_cases hab:a1=b1∧a2=b2
 ·obtain⟨rfl,rfl⟩:=hab
  rw[jr rfl]
  simp[qo.2]
 ·rw[iq (fun e=>hab (by cases e; exact⟨rfl,rfl⟩))]
  cases h1:sEq a1 b1
  ·simp[h1]
  ·cases h2:sEq a2 b2
   ·simp[h1,h2]
   ·exact absurd ⟨qo.1 h1,qo.1 h2⟩ hab
theorem axf (a b:Arr) (hf:Ret prog M.oW [.agg (cT a.item),.agg (cT b.item)] (.bool (eqv a.item b.item))):Ret prog M.UF [.agg (cA a),.agg (cA b)] (.bool (eqv a b)):=by
 refine Ret.go ah aya (by simp) fun hb w0 F0 hG=>?_
 by_cases hab:a=b
 ·subst hab
  rw[jr rfl]
  rw[jr rfl] at hf
  simp
  intros
  refine aj.ret hf ?_
  simp
 ·rw[iq hab]
  by_cases h1:a.min=b.min
  ·by_cases h2:a.max=b.max
   ·have h3:a.item≠b.item:=fun h3=>hab (by rw[← a.eta,← b.eta,h1,h2,h3])
    rw[iq h3] at hf
    simp[h1,h2]
    intros
    refine aj.ret hf ?_
    simp
   ·simp[h1,h2]
  ·simp[h1]
theorem axD (a b:Ob) (hf:∀ x∈a.fields,∀ y∈b.fields,Ret prog M.oW [.agg (cT x),.agg (cT y)] (.bool (eqv x y))) (hr:Ret prog M.oW [.agg (cT a.rest),.agg (cT b.rest)] (.bool (eqv a.rest b.rest))):Ret prog M.UO [.agg (cO a),.agg (cO b)] (.bool (eqv a b)):=by
 refine Ret.go ah axK (by simp) fun hb w0 F0 hG=>?_
 simp
 intros
 refine aj.ret (acW a.names b.names) ?_
 by_cases h1:a.names=b.names
 ·simp[jr h1]
  intros
  refine aj.ret (ao0 a.fields b.fields hf) ?_
  by_cases h2:a.fields=b.fields
  ·simp[jr h2]
   intros
   refine aj.ret (aoF a.must b.must) ?_
   by_cases h3:a.must=b.must
   ·simp[jr h3]
    intros
    refine aj.ret hr ?_
    by_cases h4:a.rest=b.rest
    ·rw[jr (show a=b by rw[← a.eta,← b.eta,h1,h2,h3,h4])]
     simp[jr h4]
    ·rw[iq (fun e=>h4 (by rw[e]):a≠b)]
     simp[iq h4]
   ·rw[iq (fun e=>h3 (by rw[e]):a≠b)]
    simp[iq h3]
  ·rw[iq (fun e=>h2 (by rw[e]):a≠b)]
   simp[iq h2]
 ·rw[iq (fun e=>h1 (by rw[e]):a≠b)]
  simp[iq h1]
theorem yc {t:Ty} {a:Arr} (h:a∈t.arrays):SizeOf.sizeOf a.item<SizeOf.sizeOf t:=by
 obtain⟨_,_,_,_,_,_,_,az,os⟩:=t
 have:=List.sizeOf_lt_of_mem h
 cases a
 simp[Arr.item,Ty.arrays] at *
 omega
theorem uh {t:Ty} {o:Ob} {f:Ty} (h:o∈t.objects) (hf:f∈o.fields):SizeOf.sizeOf f<SizeOf.sizeOf t:=by
 obtain⟨_,_,_,_,_,_,_,az,os⟩:=t
 have:=List.sizeOf_lt_of_mem h
 have:=List.sizeOf_lt_of_mem hf
 cases o
 simp[Ob.fields,Ty.objects] at *
 omega
theorem uQ {t:Ty} {o:Ob} (h:o∈t.objects):SizeOf.sizeOf o.rest<SizeOf.sizeOf t:=by
 obtain⟨_,_,_,_,_,_,_,az,os⟩:=t
 have:=List.sizeOf_lt_of_mem h
 cases o
 simp[Ob.rest,Ty.objects] at *
 omega
theorem ar0 (a:Ty):∀ b:Ty,Ret prog M.oW [.agg (cT a),.agg (cT b)] (.bool (eqv a b)):=by
 induction hn:SizeOf.sizeOf a using Nat.strongRecOn generalizing a with
 | _ n ih =>
 subst hn
 intro b
 refine Ret.go ah auq (by simp) fun hb w0 F0 hG=>?_
 by_cases h1:a.all=b.all∧a.null=b.null∧a.fls=b.fls∧a.tru=b.tru∧a.any=b.any
 ·obtain⟨h1,h2,h3,h4,h5⟩:=h1
  simp[h1,h2,h3,h4,h5]
  intros
  refine aj.ret (aq6 a.nums b.nums fun x _ y _=>atb x y) ?_
  by_cases k1:a.nums=b.nums
  ·simp[jr k1]
   intros
   refine aj.ret (acW a.texts b.texts) ?_
   by_cases k2:a.texts=b.texts
   ·simp[jr k2]
    intros
    refine aj.ret (asU a.arrays b.arrays fun x hx y _=>axf x y (ih _ (yc hx) _ rfl _)) ?_
    by_cases k3:a.arrays=b.arrays
    ·simp[jr k3]
     intros
     refine aj.ret (arK a.objects b.objects fun x hx y _=>axD x y (fun u hu v _=>ih _ (uh hx hu) _ rfl _) (ih _ (uQ hx) _ rfl _)) ?_
     by_cases k4:a.objects=b.objects
     ·rw[jr (show a=b by rw[← a.eta,← b.eta,h1,h2,h3,h4,h5,k1,k2,k3,k4])]
      simp[jr k4]
     ·rw[iq (fun e=>k4 (by rw[e]):a≠b)]
      simp[iq k4]
    ·rw[iq (fun e=>k3 (by rw[e]):a≠b)]
     simp[iq k3]
   ·rw[iq (fun e=>k2 (by rw[e]):a≠b)]
    simp[iq k2]
  ·rw[iq (fun e=>k1 (by rw[e]):a≠b)]
   simp[iq k1]
 ·have hne:a≠b:=fun e=>h1 (by rw[e]; simp)
  rw[iq hne]
  by_cases k1:a.all=b.all
  ·by_cases k2:a.null=b.null
   ·by_cases k3:a.fls=b.fls
    ·by_cases k4:a.tru=b.tru
     ·have k5:¬ a.any=b.any:=fun k5=>h1 ⟨k1,k2,k3,k4,k5⟩
      simp[k1,k2,k3,k4,k5]
     ·simp[k1,k2,k3,k4]
    ·simp[k1,k2,k3]
   ·simp[k1,k2]
  ·simp[k1]
end Go.Proofs.YtfilonnphgnplaaGreatDoor.Pv
set_option maxRecDepth 100000
namespace Go.Proofs.YtfilonnphgnplaaGreatDoor.Pv
open Go Go.Tidy
def orI:List Int→Int
 | []=>0
 | x::xs=>if x=0 then orI xs else x
theorem aCJ {xs:List Int} {i:Nat} (h:i<xs.length):orI (xs.drop i)=if xs[i]=0 then orI (xs.drop (i+1)) else xs[i]:=by
 rw[List.drop_eq_getElem_cons h]; rfl
def az2 (n:Int):List PV:=[.int .i64 n]
attribute [simp] az2
theorem YG (xs:List Int):Ret prog M.GU [.vec 1 false (xs.map az2)] (.int .i64 (orI xs)):=by
 refine Ret.go ah aAk (by simp) fun hb w0 F0 hG=>?_
 simp only[fu,gQ,List.length_map,LIM,and_true] at hb
 simp
 obtain⟨J,hJ⟩ : ∃ J:Nat→Unit→Prop,J=fun i _=>orI xs=orI (xs.drop i):=⟨_,rfl⟩
 refine aU.cnt ah xs.length (fun i _=>⟨[(8,.int .i64 i),(7,.int .i64 xs.length),(6,.vec 1 false (xs.map az2)),(3,.int .i64 0),(2,.int .i64 0)],[]⟩) J () (by simp[hJ]) (by simp) fun i _ hi hj=>?_
 have hw:=wrap64 (n:=(i:Int)+1) (by omega) (by omega)
 have hj' : orI xs=orI (xs.drop i):=by subst hJ; exact hj
 by_cases h1:i<xs.length
 ·simp[h1,hw]
  rw[hj',aCJ h1]
  refine⟨fun h=>by rw[if_neg h],fun h=>⟨(),?_⟩⟩
  subst hJ
  show _=_
  rw[hj',aCJ h1,if_pos h]
 ·simp[h1]
  rw[hj',List.drop_eq_nil_of_le (by omega)]; rfl
theorem aNv (p:Ordering) (l:List Int):orI (dX p::l)=if p=.eq then orI l else dX p:=by
 cases p<;>simp[orI]
theorem aJo (p q:Ordering):(if p=.eq then dX q else dX p)=dX (p.then q):=by cases p<;>rfl
theorem ald (p:Ordering):orI [dX p]=dX p:=by cases p<;>rfl
theorem um (p q:Ordering) (l:List Int) (h:orI l=dX q):orI (dX p::l)=dX (p.then q):=by rw[aNv,h,aJo]
theorem zY (a b:Bool):Ret prog M.vo [.bool a,.bool b] (.int .i64 (dX (ku a b))):=by
 refine Ret.go ah ayz (by simp) fun hb w0 F0 hG=>?_
 cases a<;>cases b<;>simp[ku]
theorem z8 (a b:Bool):Ret prog M.u6 [.bool a,.bool b] (.int .i64 (dX (ku a b))):=by
 refine Ret.go ah ayL (by simp) fun hb w0 F0 hG=>?_
 cases a<;>cases b<;>simp[ku]
theorem aLM (a:S):sEq a ⟨#[]⟩=fU a:=by
 rw[Bool.eq_iff_iff,qo,wh]; rfl
attribute [simp] aLM
theorem gy {a:S} (h:gu a=true) (he:fU a=false):vG a=true:=by
 simpa[gu,he] using h
theorem aio (a b:S) (o:Ordering) (ha:gu a=true) (hb' : gu b=true):Ret prog M.UM [.str a,.str b,.int .i64 (dX o)] (.int .i64 (dX (l7 o a b))):=by
 refine Ret.go ah av4 (by simp) fun hb w0 F0 hG=>?_
 unfold l7
 cases h1:sEq a b
 ·cases h2:fU a
  ·cases h3:fU b
   ·simp[h1,h2,h3]
    refine aj.ret (aiL a b) ?_
    simp[aby,gy ha h2,gy hb' h3]
   ·simp[h1,h2,h3]
    cases o<;>simp[IntKind.wrap,IntKind.bits,IntKind.signed]
  ·simp[h1,h2]
 ·simp[h1]
theorem EU {s:Span} (h:jq s=true):gu s.low=true∧gu s.high=true:=by
 simp[jq] at h; exact h.1
theorem aCn (a b:Span) (ha:jq a=true) (hb' : jq b=true):Ret prog M.ad6 [.agg (dH a),.agg (dH b)] (.int .i64 (dX (nk a b))):=by
 refine Ret.go ah aCD (by simp) fun hb w0 F0 hG=>?_
 have a1:=EU ha
 have b1:=EU hb'
 simp
 intros
 refine aH.ret (aio a.low b.low .lt a1.1 b1.1) ?_
 simp
 refine aH.ret (aio a.high b.high .gt a1.2 b1.2) ?_
 simp
 refine aH.ret (by simp; exact YG [_,_]) ?_
 simp
 exact um _ _ _ (ald _)
theorem aAH (a b:Int) (ha : -1≤a) (hb' : -1≤b):Ret prog M.aeO [.int .i64 a,.int .i64 b] (.int .i64 (dX (su a b))):=by
 refine Ret.go ah aAp (by simp) fun hb w0 F0 hG=>?_
 unfold su
 by_cases h1:a=b
 ·subst h1
  simp
  by_cases h:a<0<;>simp[h,aaM.2]
 ·by_cases h2:a<0
  ·have:¬ b<0:=by omega
   simp[h1,h2,this]
  ·by_cases h3:b<0
   ·simp[h1,h2,h3]
   ·simp[h1,h2,h3]
    refine aj.ret (acY a b) ?_
    simp
theorem als (a b:Arr):wU a b=(compare a.min b.min).then ((su a.max b.max).then (kU a.item b.item)):=by
 cases a; cases b; simp only[wU]; rfl
theorem aor (a b:Ob):mg a b=(dx kR a.names b.names).then ((dx ku a.must b.must).then ((dx kU a.fields b.fields).then (kU a.rest b.rest))):=by
 cases a; cases b; simp only[mg,aAO]; rfl
theorem azY (a b:Ty):kU a b=(ku a.all b.all).then ((ku a.null b.null).then ((ku a.fls b.fls).then ((ku a.tru b.tru).then ((dx nk a.nums b.nums).then ((ku a.any b.any).then ((dx kR a.texts b.texts).then ((dx wU a.arrays b.arrays).then (dx mg a.objects b.objects)))))))):=by
 cases a; cases b; simp only[kU,aAL,aBl]; rfl
set_option maxHeartbeats 4000000 in
theorem am8 (a:Ty):∀ b:Ty,ak a=true→ak b=true→Ret prog M.Dz [.agg (cT a),.agg (cT b)] (.int .i64 (dX (kU a b))):=by
 induction hn:SizeOf.sizeOf a using Nat.strongRecOn generalizing a with
 | _ n ih =>
 subst hn
 intro b ha hb'
 obtain⟨-,-,-,-,a5,-,a7,a8⟩:=cu ha
 obtain⟨-,-,-,-,b5,-,b7,b8⟩:=cu hb'
 have hA:∀ x∈a.arrays,∀ y∈b.arrays,Ret prog M.afD [.agg (cA x),.agg (cA y)] (.int .i64 (dX (wU x y))):=fun x hx y hy=>by
  obtain⟨-,x2,-,x4,-⟩:=gY (a7 x hx)
  obtain⟨-,y2,-,y4,-⟩:=gY (b7 y hy)
  refine Ret.go ah aEz (by simp) fun hb w0 F0 hG=>?_
  simp (maxSteps:=10000000)
  intros
  refine aH.ret (acY x.min y.min) ?_
  simp (maxSteps:=10000000)
  refine aH.ret (aAH x.max y.max x2 y2) ?_
  simp (maxSteps:=10000000)
  refine aH.ret (ih _ (yc hx) x.item rfl y.item x4 y4) ?_
  simp (maxSteps:=10000000)
  refine aH.ret (by simp; exact YG [_,_,_]) ?_
  simp (maxSteps:=10000000)
  rw[als]
  exact um _ _ _ (um _ _ _ (ald _))
 have hO:∀ x∈a.objects,∀ y∈b.objects,Ret prog M.af6 [.agg (cO x),.agg (cO y)] (.int .i64 (dX (mg x y))):=fun x hx y hy=>by
  obtain⟨-,-,-,x4,x5,-⟩:=dz (a8 x hx)
  obtain⟨-,-,-,y4,y5,-⟩:=dz (b8 y hy)
  refine Ret.go ah aEu (by simp) fun hb w0 F0 hG=>?_
  simp (maxSteps:=10000000)
  intros
  refine aH.ret (QM x.names y.names) ?_
  simp (maxSteps:=10000000)
  refine aH.ret (ac2 _ ku x.must y.must fun u _ v _=>zY u v) ?_
  simp (maxSteps:=10000000)
  refine aH.ret (ac5 _ kU x.fields y.fields fun u hu v hv=>ih _ (uh hx hu) u rfl v (x5 u hu) (y5 v hv)) ?_
  simp (maxSteps:=10000000)
  refine aH.ret (ih _ (uQ hx) x.rest rfl y.rest x4 y4) ?_
  simp (maxSteps:=10000000)
  refine aH.ret (by simp; exact YG [_,_,_,_]) ?_
  simp (maxSteps:=10000000)
  rw[aor]
  exact um _ _ _ (um _ _ _ (um _ _ _ (ald _)))
 refine Ret.go ah aEg (by simp) fun hb w0 F0 hG=>?_
 simp (maxSteps:=10000000)
 intros
 refine aH.ret (zY a.all b.all) ?_
 simp (maxSteps:=10000000)
 refine aH.ret (zY a.null b.null) ?_
 simp (maxSteps:=10000000)
 refine aH.ret (zY a.fls b.fls) ?_
 simp (maxSteps:=10000000)
 refine aH.ret (zY a.tru b.tru) ?_
 simp (maxSteps:=10000000)
 refine aH.ret (adn _ nk a.nums b.nums fun x hx y hy=>aCn x y (a5 x hx) (b5 y hy)) ?_
 simp (maxSteps:=10000000)
 refine aH.ret (zY a.any b.any) ?_
 simp (maxSteps:=10000000)
 refine aH.ret (QM a.texts b.texts) ?_
 simp (maxSteps:=10000000)
 refine aH.ret (adV _ wU a.arrays b.arrays hA) ?_
 simp (maxSteps:=10000000)
 refine aH.ret (aep _ mg a.objects b.objects hO) ?_
 simp (maxSteps:=10000000)
 refine aH.ret (by simp; exact YG [_,_,_,_,_,_,_,_,_]) ?_
 simp (maxSteps:=10000000)
 rw[azY]
 exact um _ _ _ (um _ _ _ (um _ _ _ (um _ _ _ (um _ _ _ (um _ _ _ (um _ _ _ (um _ _ _ (ald _))))))))
theorem Xq (a b:Ty) (ha:ak a=true) (hb' : ak b=true):Ret prog M.FQ [.agg (cT a),.agg (cT b)] (.bool (jm a b)):=by
 refine Ret.go ah azJ (by simp) fun hb w0 F0 hG=>?_
 simp (maxSteps:=10000000)
 intros
 refine aj.ret (am8 a b ha hb') ?_
 simp[jm]
 cases kU a b<;>rfl
end Go.Proofs.YtfilonnphgnplaaGreatDoor.Pv
namespace Go.Proofs.YtfilonnphgnplaaGreatDoor.Pv
open Go Go.Tidy
theorem atO (s:S):Ret prog M.aaT [.str s] (.bool (vG s)):=by
 obtain⟨l,rfl⟩ : ∃ l,s=bs l:=⟨_,(akU s).symm⟩
 refine Ret.go ah asW (by simp) fun hb w0 F0 hG=>?_
 simp only[fu,gQ,adI,LIM,and_true] at hb
 simp
 refine bQ.one ah ⟨[(0,.str (bs l)),(2,.bool false),(3,.str (bs (qc (bs l))))],[]⟩ ?_ ?_
 ·match l with
  | []=>simp +contextual [qc,neg]
  | c::m=>simp +contextual [qc,neg,adl]; omega
 ·have hdl:(qc (bs l)).length≤l.length:=by unfold qc; split<;>simp
  have hnum:vG (bs l)=((qc (bs l)).all zO&&!(qc (bs l)).isEmpty&&((qc (bs l)).head? != some 48||l == [48])):=by unfold vG; simp
  rw[hnum]
  generalize qc (bs l)=d at *
  obtain⟨J,hJ⟩ : ∃ J:Nat→Unit→Prop,J=fun i _=>(d.take i).all zO=true:=⟨_,rfl⟩
  simp
  refine aU.cnt ah d.length (fun i _=>⟨[(4,.int .i64 i),(3,.str (bs d)),(0,.str (bs l)),(2,.bool false)],[]⟩) J () (by rw[hJ]; rfl) (by simp) fun i _ hi hj=>?_
  have hw:=wrap64 (n:=(i:Int)+1) (by omega) (by omega)
  by_cases h1:i<d.length
  ·by_cases hd' : zO d[i]=true
   ·obtain⟨k1,k2⟩:=abp.1 hd'
    simp +contextual [h1,hw,k1,k2,UInt8.not_lt.2 k1,UInt8.not_lt.2 k2]
    refine⟨(),?_⟩
    subst hJ
    show (d.take (i+1)).all zO=true
    rw[anP h1 hj]; exact hd'
   ·have k1:d.all zO=false:=all_false h1 (by simpa using hd')
    rw[k1,Bool.false_and,Bool.false_and]
    have k2:48≤d[i]→¬ d[i]≤57:=fun h h'=>hd' (abp.2 ⟨h,h'⟩)
    simp +contextual [h1,hw,k2]
  ·have:i=d.length:=by omega
   subst hJ
   have hj1:(d.take i).all zO=true:=hj
   simp only[this,List.take_length] at hj1
   simp only[hj1,Bool.true_and]
   subst this
   clear hnum hw h1 hj hj1 hi
   cases d with
   | nil=>simp
   | cons c m =>
     have hz:¬ ((m.length:Int)+1=0):=by omega
     have hz' : ((m.length:Int)+1 == 0)=false:=by simpa using hz
     by_cases hc:c=48
     ·subst hc
      by_cases hl:l=[48]
      ·simp[WO,hz,hz',hl]
      ·simp[WO,hz,hz',hl]
     ·have hc' : ((c.toNat:Int) == 48)=false:=by simpa using hc
      simp[WO,hz,hz',hc,hc']
theorem pz (a b:S) (ha:vG a=true) (hb:vG b=true):Ret prog M.lQ [.str a,.str b] (.int .i64 (dX (fQ a b))):=by
 obtain⟨l,rfl,hl⟩:=aia ha
 obtain⟨m,rfl,hm⟩:=aia hb
 have dig0:∀ {x:List UInt8},vG (bs x)=true→0<(qc (bs x)).length∧neg (bs (qc (bs x)))=false:=fun {x} h=>by
  simp only[vG,Bool.and_eq_true,Bool.not_eq_true',List.isEmpty_eq_false_iff,List.all_eq_true] at h
  refine⟨List.length_pos_iff.2 h.1.2,?_⟩
  cases hd:qc (bs x) with
  | nil=>simp[neg]
  | cons c y =>
    have:=h.1.1 c (by rw[hd]; simp)
    have h48:=(abp.1 this).1
    simp only[neg,aEZ,List.head?_cons]
    rw[UInt8.le_iff_toNat_le] at h48
    simp only[beq_eq_false_iff_ne,ne_eq,Option.some.injEq]
    rintro rfl
    simp at h48
 have key:∀ x y:List UInt8,0<x.length→0<y.length→neg (bs x)=false→neg (bs y)=false→Ret prog M.lQ [.str (bs x),.str (bs y)] (.int .i64 (dX (qG x y))):=fun x y hx hy nx ny=>by
  refine Ret.go ah Nu (by simp) fun hb w0 F0 hG=>?_
  match x,hx with
  | c::x,_ =>
    match y,hy with
    | d::y,_ =>
      simp[neg] at nx ny
      have nx' : ((c.toNat:Int) == 45)=false:=by simpa using nx
      have ny' : ((d.toNat:Int) == 45)=false:=by simpa using ny
      simp only[qG,List.length_cons]
      by_cases hl:x.length=y.length
      ·have hl' : ((x.length:Int)+1 == y.length+1)=true:=by simp[hl]
       simp[nx',ny',hl]
       repeat (refine⟨by omega,?_⟩)
       refine aj.ret (aiQ _ _) ?_
       simp[Vw,JI]
      ·have hl' : ((x.length:Int)+1 == y.length+1)=false:=by simp; omega
       rcases Nat.lt_or_gt_of_ne hl with h|h
       ·rw[Qw.2 (by omega)]
        have hi:((x.length:Int)<y.length):=by omega
        simp[nx',ny',hl,hl',hi,Ordering.then]
        try omega
       ·rw[atL.2 (by omega)]
        have hi:¬ ((x.length:Int)<y.length):=by omega
        simp[nx',ny',hl,hl',hi,Ordering.then]
        try omega
 have n0:∀ {x:List UInt8},neg (bs x)=false→qc (bs x)=x:=fun {x} h=>by unfold qc; rw[h]; simp
 unfold fQ
 cases ha' : neg (bs l)<;>cases hb' : neg (bs m)<;>simp only
 ·rw[n0 ha',n0 hb']; exact key l m hl hm ha' hb'
 all_goals
   obtain⟨p1,p2⟩:=dig0 ha
   obtain⟨q1,q2⟩:=dig0 hb
   rcases l with _|⟨c,x⟩
   ·simp at hl
   rcases m with _|⟨d,y⟩
   ·simp at hm
 ·refine Ret.go ah Nu (by simp) fun hbb w0 F0 hG=>?_
  simp[neg] at ha' hb'
  have hc1:((c.toNat:Int) == 45)=false:=by simpa using ha'
  subst hb'
  simp[hc1]; try omega
 ·refine Ret.go ah Nu (by simp) fun hbb w0 F0 hG=>?_
  simp[neg] at ha' hb'
  have hc1:((d.toNat:Int) == 45)=false:=by simpa using hb'
  subst ha'
  simp[hc1]; try omega
 ·simp only[qc,ha',hb',aEZ,List.tail_cons,if_true] at p1 p2 q1 q2 ⊢
  refine Ret.go ah Nu (by simp) fun hbb w0 F0 hG=>?_
  simp[neg] at ha' hb'
  subst ha'
  subst hb'
  simp[adl]
  repeat (refine⟨by omega,?_⟩)
  intro v
  repeat (refine⟨by omega,?_⟩)
  refine aH.ret (key y x q1 p1 q2 p2) ?_
  simp
end Go.Proofs.YtfilonnphgnplaaGreatDoor.Pv
set_option maxRecDepth 100000
namespace Go.Proofs.YtfilonnphgnplaaGreatDoor.Pv
open Go Go.Tidy
theorem agF (a b:S) (o:Ordering) (ha:gu a=true) (hb' : gu b=true):Ret prog M.Qx [.str a,.str b,.int .i64 (dX o)] (.int .i64 (dX (l7 o a b))):=by
 refine Ret.go ah auh (by simp) fun hb w0 F0 hG=>?_
 unfold l7
 cases h1:sEq a b
 ·cases h2:fU a
  ·cases h3:fU b
   ·simp[h1,h2,h3]
    refine aj.ret (pz a b (gy ha h2) (gy hb' h3)) ?_
    simp
   ·simp[h1,h2,h3]
    cases o<;>simp[IntKind.wrap,IntKind.bits,IntKind.signed]
  ·simp[h1,h2]
 ·simp[h1]
def aan (a b:Ty):Ordering:=(ku a.all b.all).then ((ku a.null b.null).then ((ku a.fls b.fls).then (ku a.tru b.tru)))
theorem tQ (p q r:Ordering):(p.then q).then r=p.then (q.then r):=by cases p<;>rfl
theorem awl (a b:Ty):Ret prog M.acj [.agg (cT a),.agg (cT b)] (.int .i64 (dX (aan a b))):=by
 refine Ret.go ah awf (by simp) fun hb w0 F0 hG=>?_
 simp
 intro v1 v2
 refine aj.ret (z8 a.all b.all) ?_
 simp
 refine bQ.one ah ⟨[(5,.int .i64 (dX ((ku a.all b.all).then (ku a.null b.null)))),(2,.ptr (2,v1) 9 0 0),(3,.ptr (3,v2) 9 0 0)],[((3,v2),some ⟨9,[cT b],false,true⟩),((2,v1),some ⟨9,[cT a],false,true⟩)]⟩ ?_ ?_
 ·by_cases h:ku a.all b.all=.eq
  ·simp[h]
   refine aj.ret (z8 a.null b.null) ?_
   simp
  ·simp[ji,h]
   simp[kr h]
 simp
 generalize hp:(ku a.all b.all).then (ku a.null b.null)=p
 refine bQ.one ah ⟨[(5,.int .i64 (dX (p.then (ku a.fls b.fls)))),(2,.ptr (2,v1) 9 0 0),(3,.ptr (3,v2) 9 0 0)],[((3,v2),some ⟨9,[cT b],false,true⟩),((2,v1),some ⟨9,[cT a],false,true⟩)]⟩ ?_ ?_
 ·by_cases h:p=.eq
  ·simp[h]
   refine aj.ret (z8 a.fls b.fls) ?_
   simp
  ·simp[ji,h]
   simp[kr h]
 simp
 generalize hq:p.then (ku a.fls b.fls)=q
 refine bQ.one ah ⟨[(5,.int .i64 (dX (q.then (ku a.tru b.tru)))),(2,.ptr (2,v1) 9 0 0),(3,.ptr (3,v2) 9 0 0)],[((3,v2),some ⟨9,[cT b],false,true⟩),((2,v1),some ⟨9,[cT a],false,true⟩)]⟩ ?_ ?_
 ·by_cases h:q=.eq
  ·simp[h]
   refine aj.ret (z8 a.tru b.tru) ?_
   simp
  ·simp[ji,h]
   simp[kr h]
 simp
 rw[← hq,← hp,aan]
 simp[tQ]
theorem aCO (a b:List Span) (ha:∀ s∈a,jq s=true) (hb' : ∀ s∈b,jq s=true):Ret prog M.aeE [.vec 2 false (a.map dH),.vec 2 false (b.map dH)] (.int .i64 (dX (dx nk a b))):=by
 refine Ret.go ah aAr (by simp) fun hb w0 F0 hG=>?_
 simp only[fu,gQ,List.length_map,LIM,and_true] at hb
 simp
 obtain⟨J,hJ⟩ : ∃ J:Nat→Unit→Prop,J=fun i _=>i≤b.length∧dx nk a b=dx nk (a.drop i) (b.drop i):=⟨_,rfl⟩
 refine aU.cnt ah a.length (fun i _=>⟨[(5,.int .i64 i),(0,.vec 2 false (a.map dH)),(1,.vec 2 false (b.map dH))],[]⟩) J () (by simp[hJ]) (by simp) fun i _ hi hj=>?_
 have hw:=wrap64 (n:=(i:Int)+1) (by omega) (by omega)
 have hj' : i≤b.length∧dx nk a b=dx nk (a.drop i) (b.drop i):=by subst hJ; exact hj
 by_cases h1:i<a.length
 ·by_cases h2:i<b.length
  ·obtain⟨p1,p2⟩:=EU (ha _ (List.getElem_mem h1))
   obtain⟨q1,q2⟩:=EU (hb' _ (List.getElem_mem h2))
   simp[h1,h2,hw]
   intros
   refine aH.ret (agF a[i].low b[i].low .lt p1 q1) ?_
   simp
   refine bQ.one ah ⟨[(6,.int .i64 (dX (nk a[i] b[i]))),(5,.int .i64 i),(0,.vec 2 false (a.map dH)),(1,.vec 2 false (b.map dH))],[]⟩ ?_ ?_
   ·by_cases h:l7 .lt a[i].low b[i].low=.eq
    ·simp[h,h1,h2]
     intros
     refine aH.ret (agF a[i].high b[i].high .gt p2 q2) ?_
     simp[nk,xW h]
    ·simp[ji,h]
     simp[nk,kr h]
   ·simp[hw,h1,ji]
    rw[hj'.2,lq h1 h2]
    refine⟨fun h=>by rw[kr h],fun h=>⟨(),?_⟩⟩
    subst hJ
    exact⟨h2,by rw[hj'.2,lq h1 h2,xW h]⟩
  ·simp[h1,h2]
   refine aj.ret (qZ _ _) ?_
   simp
   rw[afo,hj'.2,uj hi hj'.1 (by omega)]
 ·simp[h1]
  refine aj.ret (qZ _ _) ?_
  simp
  rw[afo,hj'.2,uj hi hj'.1 (by omega)]
theorem aI4 (a b:List Arr) (hA:∀ x∈a,iw x=true) (hB:∀ x∈b,iw x=true) (hf:∀ x∈a,∀ y∈b,Ret prog M.uf [.agg (cT x.item),.agg (cT y.item)] (.int .i64 (dX (kU x.item y.item)))):Ret prog M.ZO [.vec 11 false (a.map dh),.vec 11 false (b.map dh)] (.int .i64 (dX (dx wU a b))):=by
 refine Ret.go ah aBB (by simp) fun hb w0 F0 hG=>?_
 simp only[fu,gQ,List.length_map,LIM,and_true] at hb
 simp
 obtain⟨J,hJ⟩ : ∃ J:Nat→Unit→Prop,J=fun i _=>i≤b.length∧dx wU a b=dx wU (a.drop i) (b.drop i):=⟨_,rfl⟩
 refine aU.cnt ah a.length (fun i _=>⟨[(5,.int .i64 i),(0,.vec 11 false (a.map dh)),(1,.vec 11 false (b.map dh))],[]⟩) J () (by simp[hJ]) (by simp) fun i _ hi hj=>?_
 have hw:=wrap64 (n:=(i:Int)+1) (by omega) (by omega)
 have hj' : i≤b.length∧dx wU a b=dx wU (a.drop i) (b.drop i):=by subst hJ; exact hj
 by_cases h1:i<a.length
 ·by_cases h2:i<b.length
  ·obtain⟨-,p2,-,-,-⟩:=gY (hA _ (List.getElem_mem h1))
   obtain⟨-,q2,-,-,-⟩:=gY (hB _ (List.getElem_mem h2))
   simp[h1,h2,hw]
   intros
   refine aH.ret (qZ a[i].min b[i].min) ?_
   simp
   rw[hj'.2,lq h1 h2]
   by_cases h:compare a[i].min b[i].min=.eq
   ·by_cases h' : a[i].max=b[i].max
    ·have hm:su a[i].max b[i].max=.eq:=(ahx p2 q2).2 h'
     simp[h,h',h1,h2]
     intros
     refine bQ.one ah ⟨[(6,.int .i64 (dX (wU a[i] b[i]))),(5,.int .i64 i),(0,.vec 11 false (a.map dh)),(1,.vec 11 false (b.map dh))],[]⟩ ?_ ?_
     ·simp[h1,h2]
      intros
      refine aH.ret (hf _ (List.getElem_mem h1) _ (List.getElem_mem h2)) ?_
      simp[als,xW h,xW hm]
     ·simp[hw,h1,ji]
      refine⟨fun h=>by rw[kr h],fun h=>⟨(),?_⟩⟩
      subst hJ
      exact⟨h2,by rw[hj'.2,lq h1 h2,xW h]⟩
    ·have hm:su a[i].max b[i].max≠.eq:=fun e=>h' ((ahx p2 q2).1 e)
     have hc:(wU a[i] b[i])=su a[i].max b[i].max:=by rw[als,xW h,kr hm]
     rw[kr (by rw[hc]; exact hm),hc]
     unfold su
     by_cases k1:a[i].max<0
     ·have k2:¬ b[i].max<0:=by omega
      simp[h,h',h1,h2,k1,k2]
     ·by_cases k2:b[i].max<0
      ·simp[h,h',h1,h2,k1,k2]
      ·simp[h,h',h1,h2,k1,k2]
       intros
       refine aH.ret (qZ a[i].max b[i].max) ?_
       simp
   ·have hc:(wU a[i] b[i])=compare a[i].min b[i].min:=by rw[als,kr h]
    simp[ji,h,h1,h2]
    intros
    refine bQ.one ah ⟨[(6,.int .i64 (dX (wU a[i] b[i]))),(5,.int .i64 i),(0,.vec 11 false (a.map dh)),(1,.vec 11 false (b.map dh))],[]⟩ ?_ ?_
    ·simp[ji,h,hc]
    ·rw[hc]
     simp[ji,h]
     rw[kr h]
  ·simp[h1,h2]
   refine aj.ret (qZ _ _) ?_
   simp
   rw[afo,hj'.2,uj hi hj'.1 (by omega)]
 ·simp[h1]
  refine aj.ret (qZ _ _) ?_
  simp
  rw[afo,hj'.2,uj hi hj'.1 (by omega)]
theorem aKp (a b:List Ob) (hf:∀ x∈a,∀ y∈b,Ret prog M.abh [.agg (cO x),.agg (cO y)] (.int .i64 (dX (mg x y)))):Ret prog M.ZE [.vec 12 false (a.map av),.vec 12 false (b.map av)] (.int .i64 (dX (dx mg a b))):=by
 refine Ret.go ah aBV (by simp) fun hb w0 F0 hG=>?_
 simp only[fu,gQ,List.length_map,LIM,and_true] at hb
 simp
 obtain⟨J,hJ⟩ : ∃ J:Nat→Unit→Prop,J=fun i _=>i≤b.length∧dx mg a b=dx mg (a.drop i) (b.drop i):=⟨_,rfl⟩
 refine aU.cnt ah a.length (fun i _=>⟨[(5,.int .i64 i),(0,.vec 12 false (a.map av)),(1,.vec 12 false (b.map av))],[]⟩) J () (by simp[hJ]) (by simp) fun i _ hi hj=>?_
 have hw:=wrap64 (n:=(i:Int)+1) (by omega) (by omega)
 have hj' : i≤b.length∧dx mg a b=dx mg (a.drop i) (b.drop i):=by subst hJ; exact hj
 by_cases h1:i<a.length
 ·by_cases h2:i<b.length
  ·simp[h1,h2,hw]
   intros
   refine aH.ret (hf _ (List.getElem_mem h1) _ (List.getElem_mem h2)) ?_
   simp[hw,h1,ji]
   rw[hj'.2,lq h1 h2]
   refine⟨fun h=>by rw[kr h],fun h=>⟨(),?_⟩⟩
   subst hJ
   exact⟨h2,by rw[hj'.2,lq h1 h2,xW h]⟩
  ·simp[h1,h2]
   refine aj.ret (qZ _ _) ?_
   simp
   rw[afo,hj'.2,uj hi hj'.1 (by omega)]
 ·simp[h1]
  refine aj.ret (qZ _ _) ?_
  simp
  rw[afo,hj'.2,uj hi hj'.1 (by omega)]
end Go.Proofs.YtfilonnphgnplaaGreatDoor.Pv
set_option maxRecDepth 100000
namespace Go.Proofs.YtfilonnphgnplaaGreatDoor.Pv
open Go Go.Tidy
def QZ {α:Type} (g:α→α→Ordering) (r:Ordering) (a b:List α) (i:Nat) (p:Ordering):Prop :=
 (p=.eq→r=.eq∧dx g a b=dx g (a.drop i) (b.drop i))∧(p≠.eq→p=r.then (dx g a b))
theorem QZ.start {α:Type} (g:α→α→Ordering) (r:Ordering) (a b:List α):QZ g r a b 0 r:=⟨fun h=>⟨h,by simp⟩,fun h=>by rw[kr h]⟩
theorem QZ.step {α:Type} {g:α→α→Ordering} {r:Ordering} {a b:List α} {i:Nat} (h:QZ g r a b i .eq) (h1:i<a.length) (h2:i<b.length):QZ g r a b (i+1) (g a[i] b[i]):=by
 obtain⟨hr,hl⟩:=h.1 rfl
 refine⟨fun h=>⟨hr,by rw[hl,lq h1 h2,xW h]⟩,fun h=>by rw[xW hr,hl,lq h1 h2,kr h]⟩
theorem QZ.stop {α:Type} {g:α→α→Ordering} {r p:Ordering} {a b:List α} {i:Nat} (h:QZ g r a b i p) (hl:r=.eq→a.length=b.length) (hs:p≠.eq∨a.length≤i):p=r.then (dx g a b):=by
 by_cases hp:p=.eq
 ·obtain⟨hr,hq⟩:=h.1 hp
  have h1:=hs.resolve_left (fun h=>h hp)
  rw[xW hr,hq,List.drop_eq_nil_of_le h1,List.drop_eq_nil_of_le (by rw[← hl hr]; exact h1),hp]; rfl
 ·exact h.2 hp
theorem aLs (a b:Ob) (ha:bf a=true) (hb' : bf b=true) (hf:∀ x∈a.fields,∀ y∈b.fields,Ret prog M.uf [.agg (cT x),.agg (cT y)] (.int .i64 (dX (kU x y)))) (hr:Ret prog M.uf [.agg (cT a.rest),.agg (cT b.rest)] (.int .i64 (dX (kU a.rest b.rest)))) :
 Ret prog M.abh [.agg (cO a),.agg (cO b)] (.int .i64 (dX (mg a b))):=by
 obtain⟨a1,a2,-,-,-,-⟩:=dz ha
 obtain⟨b1,b2,-,-,-,-⟩:=dz hb'
 refine Ret.go ah aDU (by simp) fun hb w0 F0 hG=>?_
 simp only[fu,gQ,List.length_map,LIM,and_true] at hb
 simp
 intro v1 v2
 refine aj.ret (aiI a.names b.names) ?_
 simp
 generalize hr0:dx kR a.names b.names=r
 have hlm:r=.eq→a.must.length=b.must.length:=fun h=>by rw[← a2,← b2,alh (hr0.trans h)]
 have hlf:r=.eq→a.fields.length=b.fields.length:=fun h=>by rw[← a1,← b1,alh (hr0.trans h)]
 obtain⟨J,hJ⟩ : ∃ J:Nat→Ordering→Prop,J=QZ ku r a.must b.must:=⟨_,rfl⟩
 refine aU.cnt ah a.must.length (fun i p=>⟨[(6,.int .i64 i),(5,.int .i64 (dX p)),(2,.ptr (2,v1) 12 0 0),(3,.ptr (3,v2) 12 0 0)],[((3,v2),some ⟨12,[cO b],false,true⟩),((2,v1),some ⟨12,[cO a],false,true⟩)]⟩) J r (by rw[hJ]; exact QZ.start _ _ _ _) (by simp) fun i p hi hj=>?_
 have hw:=wrap64 (n:=(i:Int)+1) (by omega) (by omega)
 have hj' : QZ ku r a.must b.must i p:=by rw[hJ] at hj; exact hj
 by_cases hgo:p=.eq∧i<a.must.length
 ·obtain⟨rfl,h1⟩:=hgo
  have h2:i<b.must.length:=by rw[← hlm (hj'.1 rfl).1]; exact h1
  simp[h1,h2,hw]
  intros
  refine aH.ret (z8 a.must[i] b.must[i]) ?_
  simp[hw,h1,h2]
  exact⟨ku a.must[i] b.must[i],by rw[hJ]; exact hj'.step h1 h2,rfl⟩
 ·have hp:p=r.then (dx ku a.must b.must):=hj'.stop hlm (by by_cases h:p=.eq; exact .inr (Nat.not_lt.1 (fun h'=>hgo ⟨h,h'⟩)); exact .inl h)
  have hq:p=.eq→r=.eq:=fun h=>by rw[hp] at h; exact (JD.1 h).1
  have hstop:¬ (i<a.must.length)∨(i<a.must.length∧¬ p=.eq):=by by_cases h:i<a.must.length; exact .inr ⟨h,fun e=>hgo ⟨e,h⟩⟩; exact .inl h
  clear hgo hj hj' hJ hw hi
  rcases hstop with h1|⟨h1,h1'⟩
  ·simp[h1]
   clear h1
   obtain⟨J,hJ⟩ : ∃ J:Nat→Ordering→Prop,J=QZ kU p a.fields b.fields:=⟨_,rfl⟩
   refine aU.cnt ah a.fields.length (fun i p=>⟨[(7,.int .i64 i),(5,.int .i64 (dX p)),(2,.ptr (2,v1) 12 0 0),(3,.ptr (3,v2) 12 0 0)],[((3,v2),some ⟨12,[cO b],false,true⟩),((2,v1),some ⟨12,[cO a],false,true⟩)]⟩) J p (by rw[hJ]; exact QZ.start _ _ _ _) (by simp) fun k p' hk hj=>?_
   have hw:=wrap64 (n:=(k:Int)+1) (by omega) (by omega)
   have hj' : QZ kU p a.fields b.fields k p':=by rw[hJ] at hj; exact hj
   have hlf' : p=.eq→a.fields.length=b.fields.length:=fun h=>hlf (hq h)
   by_cases hgo:p'=.eq∧k<a.fields.length
   ·obtain⟨rfl,h1⟩:=hgo
    have h2:k<b.fields.length:=by rw[← hlf' (hj'.1 rfl).1]; exact h1
    simp[h1,h2,hw]
    intros
    refine aH.ret (hf _ (List.getElem_mem h1) _ (List.getElem_mem h2)) ?_
    simp[hw,h1,h2]
    exact⟨kU a.fields[k] b.fields[k],by rw[hJ]; exact hj'.step h1 h2,rfl⟩
   ·have hp' : p'=p.then (dx kU a.fields b.fields):=hj'.stop hlf' (by by_cases h:p'=.eq; exact .inr (Nat.not_lt.1 (fun h'=>hgo ⟨h,h'⟩)); exact .inl h)
    have hstop' : ¬ (k<a.fields.length)∨(k<a.fields.length∧¬ p'=.eq):=by by_cases h:k<a.fields.length; exact .inr ⟨h,fun e=>hgo ⟨e,h⟩⟩; exact .inl h
    clear hgo hj hj' hJ hw hk
    have hfin:mg a b=p'.then (kU a.rest b.rest):=by rw[aor,hr0,hp',hp,tQ,tQ]
    rw[hfin]
    have last:∀ s:List (Nat × PV),lk 5 s=.int .i64 (dX p')→lk 2 s=.ptr (2,v1) 12 0 0→lk 3 s=.ptr (3,v2) 12 0 0→bQ ⟨prog,w0,F0,79,[],0,hG⟩ M.acs ⟨s,[((3,v2),some ⟨12,[cO b],false,true⟩),((2,v1),some ⟨12,[cO a],false,true⟩)]⟩ [.sq ((MC.reg [M.o 78 (.mv (.t 5)),M.o 4 (.mv (.t 78))]).seq .ret)] (uw M.ael (.int .i64 (dX (p'.then (kU a.rest b.rest))))):=fun s e5 e2 e3=>by
     refine bQ.one ah ⟨[(5,.int .i64 (dX (p'.then (kU a.rest b.rest))))],[]⟩ ?_ ?_
     ·by_cases h:p'=.eq
      ·simp[e5,e2,e3,h]
       refine aj.ret hr ?_
       simp
      ·simp[e5,e2,e3,ji,h]
       rw[kr h]
     ·simp
    rcases hstop' with h1|⟨h1,h1'⟩
    ·simp[h1]
     exact last _ (by simp) (by simp) (by simp)
    ·simp[h1,h1',ji]
     exact last _ (by simp) (by simp) (by simp)
  ·simp[h1,h1',ji]
   clear h1'
   clear h1
   obtain⟨J,hJ⟩ : ∃ J:Nat→Ordering→Prop,J=QZ kU p a.fields b.fields:=⟨_,rfl⟩
   refine aU.cnt ah a.fields.length (fun i p=>⟨[(7,.int .i64 i),(5,.int .i64 (dX p)),(2,.ptr (2,v1) 12 0 0),(3,.ptr (3,v2) 12 0 0)],[((3,v2),some ⟨12,[cO b],false,true⟩),((2,v1),some ⟨12,[cO a],false,true⟩)]⟩) J p (by rw[hJ]; exact QZ.start _ _ _ _) (by simp) fun k p' hk hj=>?_
   have hw:=wrap64 (n:=(k:Int)+1) (by omega) (by omega)
   have hj' : QZ kU p a.fields b.fields k p':=by rw[hJ] at hj; exact hj
   have hlf' : p=.eq→a.fields.length=b.fields.length:=fun h=>hlf (hq h)
   by_cases hgo:p'=.eq∧k<a.fields.length
   ·obtain⟨rfl,h1⟩:=hgo
    have h2:k<b.fields.length:=by rw[← hlf' (hj'.1 rfl).1]; exact h1
    simp[h1,h2,hw]
    intros
    refine aH.ret (hf _ (List.getElem_mem h1) _ (List.getElem_mem h2)) ?_
    simp[hw,h1,h2]
    exact⟨kU a.fields[k] b.fields[k],by rw[hJ]; exact hj'.step h1 h2,rfl⟩
   ·have hp' : p'=p.then (dx kU a.fields b.fields):=hj'.stop hlf' (by by_cases h:p'=.eq; exact .inr (Nat.not_lt.1 (fun h'=>hgo ⟨h,h'⟩)); exact .inl h)
    have hstop' : ¬ (k<a.fields.length)∨(k<a.fields.length∧¬ p'=.eq):=by by_cases h:k<a.fields.length; exact .inr ⟨h,fun e=>hgo ⟨e,h⟩⟩; exact .inl h
    clear hgo hj hj' hJ hw hk
    have hfin:mg a b=p'.then (kU a.rest b.rest):=by rw[aor,hr0,hp',hp,tQ,tQ]
    rw[hfin]
    have last:∀ s:List (Nat × PV),lk 5 s=.int .i64 (dX p')→lk 2 s=.ptr (2,v1) 12 0 0→lk 3 s=.ptr (3,v2) 12 0 0→bQ ⟨prog,w0,F0,79,[],0,hG⟩ M.acs ⟨s,[((3,v2),some ⟨12,[cO b],false,true⟩),((2,v1),some ⟨12,[cO a],false,true⟩)]⟩ [.sq ((MC.reg [M.o 78 (.mv (.t 5)),M.o 4 (.mv (.t 78))]).seq .ret)] (uw M.ael (.int .i64 (dX (p'.then (kU a.rest b.rest))))):=fun s e5 e2 e3=>by
     refine bQ.one ah ⟨[(5,.int .i64 (dX (p'.then (kU a.rest b.rest))))],[]⟩ ?_ ?_
     ·by_cases h:p'=.eq
      ·simp[e5,e2,e3,h]
       refine aj.ret hr ?_
       simp
      ·simp[e5,e2,e3,ji,h]
       rw[kr h]
     ·simp
    rcases hstop' with h1|⟨h1,h1'⟩
    ·simp[h1]
     exact last _ (by simp) (by simp) (by simp)
    ·simp[h1,h1',ji]
     exact last _ (by simp) (by simp) (by simp)
theorem amY (a:Ty):∀ b:Ty,ak a=true→ak b=true→Ret prog M.uf [.agg (cT a),.agg (cT b)] (.int .i64 (dX (kU a b))):=by
 induction hn:SizeOf.sizeOf a using Nat.strongRecOn generalizing a with
 | _ n ih =>
 subst hn
 intro b ha hb'
 obtain⟨-,-,-,-,a5,-,a7,a8⟩:=cu ha
 obtain⟨-,-,-,-,b5,-,b7,b8⟩:=cu hb'
 have hA:Ret prog M.ZO [.vec 11 false (a.arrays.map dh),.vec 11 false (b.arrays.map dh)] (.int .i64 (dX (dx wU a.arrays b.arrays))) :=
  aI4 a.arrays b.arrays a7 b7 fun x hx y hy=>ih _ (yc hx) x.item rfl y.item (gY (a7 x hx)).2.2.2.1 (gY (b7 y hy)).2.2.2.1
 have hO:Ret prog M.ZE [.vec 12 false (a.objects.map av),.vec 12 false (b.objects.map av)] (.int .i64 (dX (dx mg a.objects b.objects))) :=
  aKp a.objects b.objects fun x hx y hy=>by
   obtain⟨-,-,-,x4,x5,-⟩:=dz (a8 x hx)
   obtain⟨-,-,-,y4,y5,-⟩:=dz (b8 y hy)
   exact aLs x y (a8 x hx) (b8 y hy) (fun u hu v hv=>ih _ (uh hx hu) u rfl v (x5 u hu) (y5 v hv)) (ih _ (uQ hx) x.rest rfl y.rest x4 y4)
 refine Ret.go ah aD9 (by simp) fun hb w0 F0 hG=>?_
 simp
 intro v1 v2
 refine aj.ret (awl a b) ?_
 simp
 rw[azY]
 have e0:aan a b=aan a b:=rfl
 generalize hp0:aan a b=p
 have hfin:∀ x,(ku a.all b.all).then ((ku a.null b.null).then ((ku a.fls b.fls).then ((ku a.tru b.tru).then x)))=p.then x:=fun x=>by rw[← hp0,aan]; simp[tQ]
 rw[hfin]
 refine bQ.one ah ⟨[(5,.int .i64 (dX (p.then (dx nk a.nums b.nums)))),(2,.ptr (2,v1) 9 0 0),(3,.ptr (3,v2) 9 0 0)],[((3,v2),some ⟨9,[cT b],false,true⟩),((2,v1),some ⟨9,[cT a],false,true⟩)]⟩ ?_ ?_
 ·by_cases h:p=.eq
  ·simp[h]
   refine aj.ret (aCO a.nums b.nums a5 b5) ?_
   simp
  ·simp[ji,h]
   simp[kr h]
 simp
 rw[← tQ]
 generalize p.then (dx nk a.nums b.nums)=q1
 refine bQ.one ah ⟨[(5,.int .i64 (dX (q1.then (ku a.any b.any)))),(2,.ptr (2,v1) 9 0 0),(3,.ptr (3,v2) 9 0 0)],[((3,v2),some ⟨9,[cT b],false,true⟩),((2,v1),some ⟨9,[cT a],false,true⟩)]⟩ ?_ ?_
 ·by_cases h:q1=.eq
  ·simp[h]
   refine aj.ret (z8 a.any b.any) ?_
   simp
  ·simp[ji,h]
   simp[kr h]
 simp
 rw[← tQ]
 generalize q1.then (ku a.any b.any)=q2
 refine bQ.one ah ⟨[(5,.int .i64 (dX (q2.then (dx kR a.texts b.texts)))),(2,.ptr (2,v1) 9 0 0),(3,.ptr (3,v2) 9 0 0)],[((3,v2),some ⟨9,[cT b],false,true⟩),((2,v1),some ⟨9,[cT a],false,true⟩)]⟩ ?_ ?_
 ·by_cases h:q2=.eq
  ·simp[h]
   refine aj.ret (aiI a.texts b.texts) ?_
   simp
  ·simp[ji,h]
   simp[kr h]
 simp
 rw[← tQ]
 generalize q2.then (dx kR a.texts b.texts)=q3
 refine bQ.one ah ⟨[(5,.int .i64 (dX (q3.then (dx wU a.arrays b.arrays)))),(2,.ptr (2,v1) 9 0 0),(3,.ptr (3,v2) 9 0 0)],[((3,v2),some ⟨9,[cT b],false,true⟩),((2,v1),some ⟨9,[cT a],false,true⟩)]⟩ ?_ ?_
 ·by_cases h:q3=.eq
  ·simp[h]
   refine aj.ret (hA) ?_
   simp
  ·simp[ji,h]
   simp[kr h]
 simp
 rw[← tQ]
 generalize q3.then (dx wU a.arrays b.arrays)=q4
 refine bQ.one ah ⟨[(5,.int .i64 (dX (q4.then (dx mg a.objects b.objects)))),(2,.ptr (2,v1) 9 0 0),(3,.ptr (3,v2) 9 0 0)],[((3,v2),some ⟨9,[cT b],false,true⟩),((2,v1),some ⟨9,[cT a],false,true⟩)]⟩ ?_ ?_
 ·by_cases h:q4=.eq
  ·simp[h]
   refine aj.ret (hO) ?_
   simp
  ·simp[ji,h]
   simp[kr h]
 simp
end Go.Proofs.YtfilonnphgnplaaGreatDoor.Pv
set_option maxRecDepth 100000
namespace Go.Proofs.YtfilonnphgnplaaGreatDoor.Pv
open Go Go.Tidy
theorem alp {c d:UInt8}:((c.toNat:Int)≤(d.toNat:Int))↔c≤d:=by rw[UInt8.le_iff_toNat_le]; omega
theorem aKN {c d:UInt8}:((c.toNat:Int)<(d.toNat:Int))↔c<d:=by rw[UInt8.lt_iff_toNat_lt]; omega
@[simp] theorem aOr {c:UInt8}:((c.toNat:Int)<128)↔c<128:=aKN (d:=128)
@[simp] theorem aOq {c:UInt8}:(191<(c.toNat:Int))↔191<c:=aKN (c:=191)
@[simp] theorem aOx {c:UInt8}:((c.toNat:Int)=224)↔c=224:=ali 224
@[simp] theorem aOB {c:UInt8}:((c.toNat:Int)=237)↔c=237:=ali 237
@[simp] theorem aOt {c:UInt8}:((c.toNat:Int)=240)↔c=240:=ali 240
@[simp] theorem aOv {c:UInt8}:((c.toNat:Int)=244)↔c=244:=ali 244
@[simp] theorem aNE {c:UInt8}:(194≤(c.toNat:Int))↔194≤c:=alp (c:=194)
@[simp] theorem aNP {c:UInt8}:(224≤(c.toNat:Int))↔224≤c:=alp (c:=224)
@[simp] theorem aNQ {c:UInt8}:(240≤(c.toNat:Int))↔240≤c:=alp (c:=240)
@[simp] theorem aNC {c:UInt8}:((c.toNat:Int)≤223)↔c≤223:=alp (d:=223)
@[simp] theorem aOm {c:UInt8}:((c.toNat:Int)≤239)↔c≤239:=alp (d:=239)
@[simp] theorem aOa {c:UInt8}:((c.toNat:Int)≤244)↔c≤244:=alp (d:=244)
theorem aFH {l:List UInt8} {i n k:Nat} {lo hi:UInt8} (hk:k<n) (h:i+k<l.length) (hc:¬ (128≤l[i+k]∧l[i+k]≤191)):trail (l.drop i) n lo hi=false:=by
 have:((l.drop i).take n).all (fun c=>128≤c&&c≤191)=false:=by
  rw[List.all_eq_false]
  refine⟨l[i+k],?_,by simpa using hc⟩
  rw[List.mem_iff_getElem?]
  exact⟨k,by rw[List.getElem?_take_of_lt hk,List.getElem?_drop,List.getElem?_eq_getElem h]⟩
 simp[trail,this]
theorem axo (l:List UInt8) (i n:Nat) (lo hi:UInt8) (hn:1≤n) (hn' : n≤3) (hi' : i≤l.length):Ret prog M.vg [.str (bs l),.int .i64 i,.int .i64 n,.int .u8 lo.toNat,.int .u8 hi.toNat] (.bool (trail (l.drop i) n lo hi)):=by
 refine Ret.go ah awW (by simp) fun hb w0 F0 hG=>?_
 simp only[fu,gQ,adI,LIM,and_true] at hb
 have w1:=wrap64 (n:=(i:Int)+n) (by omega) (by omega)
 by_cases h:i+n≤l.length
 ·have h' : ¬ ((l.length:Int)<(i:Int)+n):=by omega
  simp[w1,h']
  obtain⟨J,hJ⟩ : ∃ J:Nat→Unit→Prop,J=fun k _=>((l.drop i).take k).all (fun c=>128≤c&&c≤191)=true:=⟨_,rfl⟩
  refine aU.cnt ah n (fun k _=>⟨[(11,.int .i64 k),(0,.str (bs l)),(1,.int .i64 i),(2,.int .i64 n),(3,.int .u8 lo.toNat),(4,.int .u8 hi.toNat)],[]⟩) J () (by simp[hJ]) (by simp) fun k _ hk hj=>?_
  have hw:=wrap64 (n:=(k:Int)+1) (by omega) (by omega)
  have hw2:=wrap64 (n:=(i:Int)+k) (by omega) (by omega)
  have hj' : ((l.drop i).take k).all (fun c=>128≤c&&c≤191)=true:=by subst hJ; exact hj
  have e0:((i:Int)+(k:Int)).toNat=i+k:=by omega
  by_cases h1:k<n
  ·have h2:i+k<l.length:=by omega
   have h3:(i:Int)+k<l.length:=by omega
   have h4:(0:Int)≤(i:Int)+k:=by omega
   by_cases hc:128≤l[i+k]∧l[i+k]≤191
   ·have k1:¬ l[i+k]<128:=UInt8.not_lt.2 hc.1
    have k2:¬ 191<l[i+k]:=UInt8.not_lt.2 hc.2
    simp[h1,hw,hw2,e0,h2,h3,h4,k1,k2]
    refine⟨(),?_⟩
    subst hJ
    show ((l.drop i).take (k+1)).all _=true
    rw[anP (by simp; omega) hj']
    simpa using hc
   ·rw[aFH h1 h2 hc]
    have k12:l[i+k]<128∨191<l[i+k]:=by
     rcases UInt8.lt_or_le l[i+k] 128 with k1|k1
     ·exact .inl k1
     ·rcases UInt8.lt_or_le 191 l[i+k] with k2|k2
      ·exact .inr k2
      ·exact absurd ⟨k1,k2⟩ hc
    rcases k12 with k1|k1
    ·simp[h1,hw,hw2,e0,h2,h3,h4,k1]
    ·by_cases k2:l[i+k]<128
     ·simp[h1,hw,hw2,e0,h2,h3,h4,k2]
     ·simp[h1,hw,hw2,e0,h2,h3,h4,k1,k2]
  ·have:k=n:=by omega
   subst this
   have hil:i<l.length:=by omega
   have e:trail (l.drop i) k lo hi=(decide (lo≤l[i])&&decide (l[i]≤hi)):=by
    unfold trail
    rw[hj',List.drop_eq_getElem_cons hil]
    have:k≤(l[i]::l.drop (i+1)).length:=by simp; omega
    rw[decide_eq_true this]; rfl
   rw[e]
   by_cases k1:lo≤l[i]
   ·have k1' : lo.toNat≤l[i].toNat:=UInt8.le_iff_toNat_le.1 k1
    have k2:decide (l[i].toNat≤hi.toNat)=decide (l[i]≤hi):=by simp[UInt8.le_iff_toNat_le]
    simp[hil,k1,k1',k2]
   ·have k1' : ¬ lo.toNat≤l[i].toNat:=fun h=>k1 (UInt8.le_iff_toNat_le.2 h)
    simp[hil,k1,k1']
 ·have h' : ((l.length:Int)<(i:Int)+n):=by omega
  have e:trail (l.drop i) n lo hi=false:=by
   have:¬ n≤l.length-i:=by omega
   simp[trail,this]
  rw[e]
  simp[w1,h']
theorem aH4 {l:List UInt8} {n:Nat} {lo hi:UInt8} (h:trail l n lo hi=true):n≤l.length:=by
 simp[trail] at h; exact h.1.1
theorem avv (l:List UInt8):width l≤l.length:=by
 cases l with
 | nil=>simp[width]
 | cons c l =>
   simp only[width]
   repeat' split
   all_goals first
     | (simp; done)
     | (rename_i h; simp only[Bool.and_eq_true] at h; have:=aH4 h.2; simp; omega)
theorem aIR {w0:World} {F0:Nat→Prop} {hG:GOk prog w0 F0} (l:List UInt8) (i c lo hi:Nat) (T:Nat→Bool) (w1' : IntKind.i64.wrap ((i:Int)+1)=((i+1:Nat):Int))
 (tr:∀ n:Nat,1≤n→n≤3→Ret prog M.vg [.str (bs l),.int .i64 ((i+1:Nat):Int),.int .i64 n,.int .u8 lo,.int .u8 hi] (.bool (T n))) (W:Nat)
 (hW:W=if 224≤c∧c≤239∧T 2=true then 3 else if 240≤c∧c≤244∧T 3=true then 4 else 0) :
 XC ⟨prog,w0,F0,61,[],0,hG⟩ M.ae6 ⟨[(5,.int .u8 c),(6,.int .u8 lo),(7,.int .u8 hi),(0,.str (bs l)),(1,.int .i64 i)],[]⟩ [] (uw M.aa5 (.int .i64 W)):=by
 by_cases g1:224≤c
 ·have g1' : (224:Int)≤c:=by omega
  by_cases g2:c≤239
  ·have g2' : (c:Int)≤239:=by omega
   have n1:¬ 240≤c:=by omega
   have n1' : ¬ (240:Int)≤c:=by omega
   simp[g1',g2',n1',w1']
   refine aj.ret (tr 2 (by omega) (by omega)) ?_
   cases ht:T 2
   ·simp[n1',hW,n1,ht]
   ·simp[hW,g1,g2,ht]
  ·have g2' : ¬ (c:Int)≤239:=by omega
   have g3:240≤c:=by omega
   have g3' : (240:Int)≤c:=by omega
   by_cases g4:c≤244
   ·have g4' : (c:Int)≤244:=by omega
    simp[g1',g2',g3',g4',w1']
    refine aj.ret (tr 3 (by omega) (by omega)) ?_
    cases ht:T 3<;>simp[hW,g2,g3,g4,ht]
   ·have g4' : ¬ (c:Int)≤244:=by omega
    simp[g1',g2',g3',g4',hW,g2,g3,g4]
 ·have g1' : ¬ (224:Int)≤c:=by omega
  have n1:¬ 240≤c:=by omega
  have n1' : ¬ (240:Int)≤c:=by omega
  simp[g1',n1',hW,n1,g1]
theorem aFA {w0:World} {F0:Nat→Prop} {hG:GOk prog w0 F0} (l d:List UInt8) (i:Nat) (c:UInt8) (w1' : IntKind.i64.wrap ((i:Int)+1)=((i+1:Nat):Int))
 (tr:∀ (n:Nat) (lo hi:UInt8),1≤n→n≤3→Ret prog M.vg [.str (bs l),.int .i64 ((i+1:Nat):Int),.int .i64 n,.int .u8 lo.toNat,.int .u8 hi.toNat] (.bool (trail d n lo hi))) (s:List (Nat × PV))
 (e5:lk 5 s=.int .u8 c.toNat) (e6:lk 6 s=.int .u8 128) (e7:lk 7 s=.int .u8 191) (e0:lk 0 s=.str (bs l)) (e1:lk 1 s=.int .i64 i) :
 bQ ⟨prog,w0,F0,61,[],0,hG⟩ M.afb ⟨s,[]⟩ [.sq M.afl] (uw M.aa5 (.int .i64 (if 224≤c&&c≤239&&trail d 2 (if c == 224 then 160 else 128) (if c == 237 then 159 else 191) then 3 else if 240≤c&&c≤244&&trail d 3 (if c == 240 then 144 else 128) (if c == 244 then 143 else 191) then 4 else 0:Nat))):=by
 refine bQ.one ah ⟨[(5,.int .u8 c.toNat),(6,.int .u8 ((if c=224 then 160 else 128:UInt8).toNat:Int)),(7,.int .u8 ((191:UInt8).toNat:Int)),(0,.str (bs l)),(1,.int .i64 i)],[]⟩ ?_ ?_
 ·by_cases h:c=224<;>simp[e5,e6,e7,e0,e1,h]
 simp
 refine bQ.one ah ⟨[(5,.int .u8 c.toNat),(6,.int .u8 ((if c=224 then 160 else 128:UInt8).toNat:Int)),(7,.int .u8 ((if c=237 then 159 else 191:UInt8).toNat:Int)),(0,.str (bs l)),(1,.int .i64 i)],[]⟩ ?_ ?_
 ·by_cases h:c=237<;>simp[h]
 simp
 refine bQ.one ah ⟨[(5,.int .u8 c.toNat),(6,.int .u8 ((if c=240 then 144 else (if c=224 then 160 else 128):UInt8).toNat:Int)),(7,.int .u8 ((if c=237 then 159 else 191:UInt8).toNat:Int)),(0,.str (bs l)),(1,.int .i64 i)],[]⟩ ?_ ?_
 ·by_cases h:c=240<;>simp[h]
 simp
 refine bQ.one ah ⟨[(5,.int .u8 c.toNat),(6,.int .u8 ((if c=240 then 144 else (if c=224 then 160 else 128):UInt8).toNat:Int)),(7,.int .u8 ((if c=244 then 143 else (if c=237 then 159 else 191):UInt8).toNat:Int)),(0,.str (bs l)),(1,.int .i64 i)],[]⟩ ?_ ?_
 ·by_cases h:c=244<;>simp[h]
 rw[ahI]
 refine aIR l i c.toNat _ _ (fun n=>trail d n (if c=240 then 144 else (if c=224 then 160 else 128)) (if c=244 then 143 else (if c=237 then 159 else 191))) w1' (fun n h1 h2=>tr n _ _ h1 h2) _ ?_
 have q1:(224≤c)=(224≤c.toNat):=by rw[UInt8.le_iff_toNat_le]; rfl
 have q2:(c≤239)=(c.toNat≤239):=by rw[UInt8.le_iff_toNat_le]; rfl
 have q3:(240≤c)=(240≤c.toNat):=by rw[UInt8.le_iff_toNat_le]; rfl
 have q4:(c≤244)=(c.toNat≤244):=by rw[UInt8.le_iff_toNat_le]; rfl
 simp only[q1,q2,q3,q4,Bool.and_eq_true,decide_eq_true_eq,beq_iff_eq,and_assoc]
 by_cases g1:c.toNat≤239
 ·have n1:¬ 240≤c.toNat:=by omega
  have n2:¬ c=240:=fun e=>n1 (by rw[e]; decide)
  have n3:¬ c=244:=fun e=>n1 (by rw[e]; decide)
  simp[n1,n2,n3]
 ·have n2:¬ c=224:=fun e=>g1 (by rw[e]; decide)
  have n3:¬ c=237:=fun e=>g1 (by rw[e]; decide)
  simp[g1,n2,n3]
theorem ayF (l:List UInt8) (i:Nat) (hi:i<l.length):Ret prog M.acz [.str (bs l),.int .i64 i] (.int .i64 (width (l.drop i))):=by
 refine Ret.go ah ayG (by simp) fun hb w0 F0 hG=>?_
 simp only[fu,gQ,adI,LIM,and_true] at hb
 have w1:=wrap64 (n:=(i:Int)+1) (by omega) (by omega)
 have w1' : IntKind.i64.wrap ((i:Int)+1)=((i+1:Nat):Int):=by rw[w1]; omega
 have e0:l.drop i=l[i]::l.drop (i+1):=List.drop_eq_getElem_cons hi
 have tr:∀ (n:Nat) (lo hi:UInt8),1≤n→n≤3→Ret prog M.vg [.str (bs l),.int .i64 ((i+1:Nat):Int),.int .i64 n,.int .u8 lo.toNat,.int .u8 hi.toNat] (.bool (trail (l.drop (i+1)) n lo hi)):=fun n lo hi' h1 h2=>axo l (i+1) n lo hi' h1 h2 (by omega)
 rw[e0]
 generalize hc:l[i]=c
 generalize hd:l.drop (i+1)=d at *
 by_cases h1:c<128
 ·simp[hi,hc,h1,width]
 ·have hw:width (c::d)=if 194≤c&&c≤223&&trail d 1 128 191 then 2 else (if 224≤c&&c≤239&&trail d 2 (if c == 224 then 160 else 128) (if c == 237 then 159 else 191) then 3 else if 240≤c&&c≤244&&trail d 3 (if c == 240 then 144 else 128) (if c == 244 then 143 else 191) then 4 else 0):=by
     simp only[width]; rw[if_neg h1]
  rw[hw]
  generalize hW:(if 224≤c&&c≤239&&trail d 2 (if c == 224 then 160 else 128) (if c == 237 then 159 else 191) then 3 else if 240≤c&&c≤244&&trail d 3 (if c == 240 then 144 else 128) (if c == 244 then 143 else 191) then 4 else 0)=W
  have tail:=aFA (w0:=w0) (F0:=F0) (hG:=hG) l d i c w1' tr
  rw[hW] at tail
  by_cases h2:194≤c
  ·by_cases h3:c≤223
   ·simp[hi,hc,h1,h2,h3,w1']
    refine aj.ret (tr 1 128 191 (by omega) (by omega)) ?_
    cases ht:trail d 1 128 191
    ·simp
     exact tail _ (by simp) (by simp) (by simp) (by simp) (by simp)
    ·simp
   ·simp[hi,hc,h1,h2,h3]
    exact tail _ (by simp) (by simp) (by simp) (by simp) (by simp)
  ·simp[hi,hc,h1,h2]
   exact tail _ (by simp) (by simp) (by simp) (by simp) (by simp)
end Go.Proofs.YtfilonnphgnplaaGreatDoor.Pv
set_option maxRecDepth 100000
namespace Go.Proofs.YtfilonnphgnplaaGreatDoor.Pv
open Go Go.Tidy
theorem anX (n:Nat):BQ n []=true:=by cases n<;>simp[BQ]
theorem avz:∀ (n m:Nat) (l:List UInt8),l.length≤n→l.length≤m→BQ n l=BQ m l
 | _,_,[],_,_=>by rw[anX,anX]
 | 0,_,c::l,h,_=>by simp at h
 | _,0,c::l,_,h=>by simp at h
 | n+1,m+1,c::l,h,h'=>by
   simp only[BQ]
   by_cases hw:width (c::l)=0
   ·simp[hw]
   ·have h1:=avv (c::l)
    have:BQ n ((c::l).drop (width (c::l)))=BQ m ((c::l).drop (width (c::l))):=by
     apply avz
     ·simp only[List.length_drop] at *; omega
     ·simp only[List.length_drop] at *; omega
    rw[this]
theorem aHW {l:List UInt8} (hl:l≠[]):BQ l.length l=(width l != 0&&BQ (l.drop (width l)).length (l.drop (width l))):=by
 cases l with
 | nil=>exact absurd rfl hl
 | cons c l =>
   show BQ (l.length+1) (c::l)=_
   simp only[BQ,List.isEmpty_cons,Bool.false_or]
   by_cases hw:width (c::l)=0
   ·simp[hw]
   ·congr 1
    exact avz _ _ _ (by simp only[List.length_drop,List.length_cons]; omega) (Nat.le_refl _)
theorem aED (a:S):Ret prog M.af2 [.str a] (.bool (Qb a)):=by
 obtain⟨l,rfl⟩ : ∃ l,a=bs l:=⟨a.data.toList,by simp[bs]⟩
 refine Ret.go ah aDs (by simp) fun hb w0 F0 hG=>?_
 simp only[fu,gQ,adI,LIM,and_true] at hb
 have e:Qb (bs l)=BQ l.length l:=by simp[Qb,bs]
 rw[e]
 simp
 obtain⟨J,hJ⟩ : ∃ J:Nat→Prop,J=fun i=>i≤l.length∧BQ l.length l=BQ (l.drop i).length (l.drop i):=⟨_,rfl⟩
 refine aU.go ah (fun i:Nat=>⟨[(3,.int .i64 i),(0,.str (bs l))],[]⟩) J (fun i=>l.length-i) 0 (by simp[hJ]) (by simp) fun i hj=>?_
 obtain⟨hi,hj'⟩ : i≤l.length∧BQ l.length l=BQ (l.drop i).length (l.drop i):=by rw[hJ] at hj; exact hj
 by_cases h1:i<l.length
 ·have hne:l.drop i≠[]:=by simp; omega
  simp[h1]
  refine aj.ret (ayF l i h1) ?_
  have hwl:=avv (l.drop i)
  simp only[List.length_drop] at hwl
  rw[aHW hne] at hj'
  by_cases hw:width (l.drop i)=0
  ·simp[hw,hj']
  ·have w1:=wrap64 (n:=(i:Int)+width (l.drop i)) (by omega) (by omega)
   have e1:((i:Int)+(width (l.drop i):Int))=((i+width (l.drop i):Nat):Int):=by omega
   simp[hw,w1]
   refine⟨i+width (l.drop i),?_,by omega,by omega⟩
   rw[hJ]
   refine⟨by omega,?_⟩
   rw[hj']
   simp[hw,Nat.add_comm]
 ·have:l.drop i=[]:=by simp; omega
  simp[h1,hj',this,anX]
theorem an6 {l:List S} {i:Nat} (hi:i<l.length):jh l=true→Qb l[i]=true∧∀ h:0<i,sLt (l[i-1]'(by omega)) l[i]=true:=by
 intro h
 induction l generalizing i with
 | nil=>simp at hi
 | cons a l ih =>
   cases l with
   | nil =>
     have:i=0:=by simp at hi; exact hi
     subst this; simp[jh] at h; simp[h]
   | cons b l =>
     simp[jh] at h
     cases i with
     | zero=>exact⟨h.1.1,fun h'=>absurd h' (by omega)⟩
     | succ i =>
       have:=ih (i:=i) (by simpa using hi) h.2
       refine⟨this.1,fun _=>?_⟩
       cases i with
       | zero=>exact h.1.2
       | succ j=>exact this.2 (by omega)
theorem azo {l:List S} (h:∀ i (hi:i<l.length),Qb l[i]=true∧∀ h:0<i,sLt (l[i-1]'(by omega)) l[i]=true):jh l=true:=by
 induction l with
 | nil=>rfl
 | cons a l ih =>
   cases l with
   | nil=>simpa[jh] using (h 0 (by simp)).1
   | cons b l =>
     simp only[jh,Bool.and_eq_true]
     refine⟨⟨(h 0 (by simp)).1,(h 1 (by simp)).2 (by omega)⟩,ih fun i hi=>?_⟩
     have:=h (i+1) (by simpa using hi)
     refine⟨this.1,fun h'=>?_⟩
     have h2:=this.2 (by omega)
     cases i with
     | zero=>omega
     | succ j=>exact h2
def aei (l:List S) (i:Nat):Prop:=∀ j (hj:j<l.length),j<i→Qb l[j]=true∧∀ h:0<j,sLt (l[j-1]'(by omega)) l[j]=true
theorem aei.step {l:List S} {i:Nat} (h:aei l i) (hi:i<l.length) (h1:Qb l[i]=true) (h2:∀ h:0<i,sLt (l[i-1]'(by omega)) l[i]=true):aei l (i+1):=by
 intro j hj hlt
 by_cases e:j=i
 ·subst e; exact⟨h1,h2⟩
 ·exact h j hj (by omega)
theorem akX (l:List S):Ret prog M.XK [.vec 1 false (l.map encStr)] (.bool (jh l)):=by
 refine Ret.go ah aAJ (by simp) fun hb w0 F0 hG=>?_
 simp only[fu,gQ,List.length_map,LIM,and_true] at hb
 simp
 obtain⟨J,hJ⟩ : ∃ J:Nat→Unit→Prop,J=fun k _=>aei l k:=⟨_,rfl⟩
 refine aU.cnt ah l.length (fun k _=>⟨[(3,.int .i64 k),(0,.vec 1 false (l.map encStr))],[]⟩) J () (by rw[hJ]; intro j _ h; omega) (by simp) fun k _ hk hj=>?_
 have hw:=wrap64 (n:=(k:Int)+1) (by omega) (by omega)
 have hj' : aei l k:=by rw[hJ] at hj; exact hj
 by_cases h1:k<l.length
 ·simp[h1,hw]
  refine aj.ret (aED l[k]) ?_
  by_cases hu:Qb l[k]=true
  ·by_cases h0:0<k
   ·have w1:=wrap64 (n:=(k:Int)-1) (by omega) (by omega)
    have e1:((k:Int)-1).toNat=k-1:=by omega
    have e2:(0:Int)≤(k:Int)-1:=by omega
    have e3:k-1<l.length:=by omega
    have e4:(k:Int)-1<l.length:=by omega
    have e5:(1:Int)≤k:=by omega
    by_cases hs:sLt l[k-1] l[k]=true
    ·have hs':=hs
     simp[hu,h0,w1,e1,e2,e3,e4,e5,h1,hs,hw]
     refine⟨(),?_⟩
     rw[hJ]
     exact hj'.step h1 hu fun _=>hs
    ·have:jh l=false:=by
        cases hr:jh l with
        | false=>rfl
        | true=>exact absurd ((an6 h1 hr).2 h0) hs
     simp[hu,h0,w1,e1,e2,e3,e4,e5,h1,hs,this]
   ·have h0' : k=0:=by omega
    subst h0'
    have w0' : IntKind.i64.wrap 1=1:=wrap64 (by omega) (by omega)
    simp[hu,h1,w0']
    refine⟨(),?_⟩
    rw[hJ]
    exact hj'.step h1 hu fun h=>absurd h (by omega)
  ·have:jh l=false:=by
      cases hr:jh l with
      | false=>rfl
      | true=>exact absurd (an6 h1 hr).1 hu
   simp[hu,this]
 ·have:jh l=true:=azo fun i hi=>hj' i hi (by omega)
  simp[h1,this]
end Go.Proofs.YtfilonnphgnplaaGreatDoor.Pv
set_option maxRecDepth 100000
namespace Go.Proofs.YtfilonnphgnplaaGreatDoor.Pv
open Go Go.Tidy
theorem aNg {α:Type} (l:List α):(((l.length:Nat):Int) == 0)=l.isEmpty:=by cases l<;>simp<;>omega
theorem aMc {α:Type} (l:List α) [Decidable (l=[])]:decide (l=[])=l.isEmpty:=by cases l<;>simp
theorem akO (t:Ty):Ret prog M.YW [.agg (cT t)] (.bool (bare t)):=by
 refine Ret.go ah aAM (by simp) fun hb w0 F0 hG=>?_
 simp[bare,aNg,aMc]
theorem Uw (t:Ty):Ret prog M.KR [.agg (cT t)] (.bool (never t)):=by
 refine Ret.go ah ays (by simp) fun hb w0 F0 hG=>?_
 unfold never
 cases h:t.all
 ·simp[h]
  intro v
  refine aj.ret (by have:=akO t; unfold cT at this; rw[h] at this; exact this) ?_
  simp
 ·simp[h]
theorem aiJ (s:S):Ret prog M.Uq [.str s] (.bool (gu s)):=by
 refine Ret.go ah aw5 (by simp) fun hb w0 F0 hG=>?_
 unfold gu
 cases h:fU s
 ·simp[h]
  refine aj.ret (atO s) ?_
  simp
 ·simp[h]
def iG {α:Type} (p:α→Bool) (l:List α) (k:Nat):Prop:=∀ j (hj:j<l.length),j<k→p l[j]=true
theorem iG.zero {α:Type} {p:α→Bool} {l:List α}:iG p l 0:=fun _ _ h=>absurd h (by omega)
theorem iG.step {α:Type} {p:α→Bool} {l:List α} {k:Nat} (h:iG p l k) (hk:k<l.length) (hp:p l[k]=true):iG p l (k+1):=fun j hj hlt=>by
 by_cases e:j=k
 ·subst e; exact hp
 ·exact h j hj (by omega)
theorem iG.all {α:Type} {p:α→Bool} {l:List α} {k:Nat} (h:iG p l k) (hk:¬ k<l.length):l.all p=true:=by
 rw[List.all_eq_true]
 intro x hx
 obtain⟨j,hj,rfl⟩:=List.getElem_of_mem hx
 exact h j hj (by omega)
theorem uY {α:Type} {p:α→Bool} {l:List α} {k:Nat} (hk:k<l.length) (h:p l[k]=false):l.all p=false:=by
 rw[List.all_eq_false]
 exact⟨l[k],List.getElem_mem hk,by simp[h]⟩
set_option maxHeartbeats 4000000 in
theorem axv (l:List Span):Ret prog M.acN [.vec 2 false (l.map dH)] (.bool (decide (l.length≤1)&&l.all jq)):=by
 refine Ret.go ah awz (by simp) fun hb w0 F0 hG=>?_
 simp only[fu,gQ,List.length_map,LIM,and_true] at hb
 by_cases h0:l.length≤1
 ·have h0' : ¬ (1:Int)<l.length:=by omega
  generalize hB:l.all jq=B
  obtain⟨J,hJ⟩ : ∃ J:Nat→Unit→Prop,J=fun k _=>iG jq l k:=⟨_,rfl⟩
  simp[h0,h0']
  refine aU.cnt ah l.length (fun k _=>⟨[(3,.int .i64 k),(0,.vec 2 false (l.map dH))],[]⟩) J () (by rw[hJ]; exact .zero) (by simp) fun k _ hk hj=>?_
  have hw:=wrap64 (n:=(k:Int)+1) (by omega) (by omega)
  have hj' : iG jq l k:=by rw[hJ] at hj; exact hj
  by_cases h1:k<l.length
  ·have no:jq l[k]=false→B=false:=fun h=>hB ▸ uY h1 h
   have hs:jq l[k]=(gu l[k].low&&gu l[k].high&&(fU l[k].low||fU l[k].high||(fQ l[k].low l[k].high).isLE)):=rfl
   simp[h1,hw]
   refine aj.ret (aiJ l[k].low) ?_
   cases b1:gu l[k].low
   ·rw[b1] at hs
    simp[no (by rw[hs]; rfl)]
   ·simp[h1]
    refine aj.ret (aiJ l[k].high) ?_
    cases b2:gu l[k].high
    ·rw[b1,b2] at hs
     simp[no (by rw[hs]; rfl)]
    ·rw[b1,b2] at hs
     cases e1:fU l[k].low
     ·cases e2:fU l[k].high
      ·simp (maxSteps:=10000000) [h1,hw,e1,e2]
       intros
       refine aH.ret (pz _ _ (by simpa[gu,e1] using b1) (by simpa[gu,e2] using b2)) ?_
       rw[e1,e2] at hs
       cases hc:fQ l[k].low l[k].high with
       | gt =>
         rw[hc] at hs
         simp[dX,no (by rw[hs]; rfl)]
       | lt =>
         rw[hc] at hs
         simp[dX,hw]
         first|refine⟨(),?_⟩|refine⟨h1,(),?_⟩
         rw[hJ]; exact hj'.step h1 (by rw[hs]; rfl)
       | eq =>
         rw[hc] at hs
         simp[dX,hw]
         first|refine⟨(),?_⟩|refine⟨h1,(),?_⟩
         rw[hJ]; exact hj'.step h1 (by rw[hs]; rfl)
      ·simp (maxSteps:=10000000) [h1,hw,e1,e2]
       first|refine⟨(),?_⟩|refine⟨h1,(),?_⟩
       rw[hJ]; exact hj'.step h1 (by rw[hs,e1,e2]; rfl)
     ·simp (maxSteps:=10000000) [h1,hw,e1]
      first|refine⟨(),?_⟩|refine⟨h1,(),?_⟩
      rw[hJ]; exact hj'.step h1 (by rw[hs,e1]; rfl)
  ·simp[h1,← hB,hj'.all h1]
 ·have h0' : (1:Int)<l.length:=by omega
  simp[h0,h0']
end Go.Proofs.YtfilonnphgnplaaGreatDoor.Pv

/- Part 7. -/
import Derived.Test.YtngjnfbngheccaaGreatDoorU6
set_option linter.unusedSimpArgs false
set_option linter.unusedVariables false
namespace Go.Tidy
def Q3 (p q r:Ordering):Prop:=(p.isLE=true→q.isLE=true→r.isLE=true)∧(p=.eq→q=.eq→r=.eq)∧(p.isLE=true→q.isLE=true→r=.eq→p=.eq∧q=.eq)
instance (p q r:Ordering):Decidable (Q3 p q r):=by unfold Q3; infer_instance
theorem Q3.then {p q r p' q' r' : Ordering} (h:Q3 p q r) (k:Q3 p' q' r'):Q3 (p.then p') (q.then q') (r.then r'):=by
 revert p q r p' q' r'
 decide
theorem BF (p q:Ordering):(p.then q).swap=p.swap.then q.swap:=by cases p<;>rfl
theorem Qx {p q:Ordering}:p.then q=.eq↔p=.eq∧q=.eq:=by cases p<;>cases q<;>decide
theorem azE (a b:Bool):l5 b a=(l5 a b).swap:=by cases a<;>cases b<;>rfl
theorem akx (a b d:Bool):Q3 (l5 a b) (l5 b d) (l5 a d):=by cases a<;>cases b<;>cases d<;>decide
theorem axy {a b:Bool}:l5 a b=.eq↔a=b:=by cases a<;>cases b<;>decide
theorem aon (a b:Int):compare b a=(compare a b).swap:=by
 simp only[compare,compareOfLessAndEq]
 by_cases h1:a<b
 ·rw[if_neg (by omega),if_neg (by omega),if_pos h1]; rfl
 ·by_cases h2:a=b
  ·subst h2; simp
  ·rw[if_pos (by omega),if_neg h1,if_neg h2]; rfl
theorem adT {a b:Int}:compare a b=.eq↔a=b:=by
 simp only[compare,compareOfLessAndEq]
 split<;>(try split)<;>simp_all<;>omega
theorem ap7 {a b:Int}:compare a b=.lt↔a<b:=by
 simp only[compare,compareOfLessAndEq]
 split<;>(try split)<;>simp_all
theorem ax1 {a b:Int}:compare a b=.gt↔b<a:=by
 simp only[compare,compareOfLessAndEq]
 split<;>(try split)<;>simp_all<;>omega
theorem aMJ {p:Ordering}:p.isLE=true↔p=.lt∨p=.eq:=by cases p<;>simp
theorem aGk (a b d:Int):Q3 (compare a b) (compare b d) (compare a d):=by
 simp only[Q3,aMJ,ap7,adT]
 omega
theorem QG (a b:Nat):compare a b=compare (a:Int) (b:Int):=by
 simp only[compare,compareOfLessAndEq]
 split<;>split<;>(try split)<;>simp_all<;>omega
theorem azQ (a b:Nat):compare b a=(compare a b).swap:=by rw[QG,QG]; exact aon _ _
theorem aKK (a b d:Nat):Q3 (compare a b) (compare b d) (compare a d):=by rw[QG,QG,QG]; exact aGk _ _ _
theorem Zh {a b:Nat}:compare a b=.eq↔a=b:=by rw[QG,adT]; omega
def aj2 (a b:UInt8):Ordering:=compare a.toNat b.toNat
theorem aqg {a b:UInt8}:aj2 a b=.eq↔a=b:=by
 unfold aj2; rw[Zh]; exact UInt8.toNat_inj
section
variable {α:Type} {f:α→α→Ordering}
theorem YT (hf:∀ a b,f b a=(f a b).swap):∀ l m:List α,dn f m l=(dn f l m).swap
 | [],[]=>rfl
 | [],_::_=>rfl
 | _::_,[]=>rfl
 | a::l,b::m=>by simp only[dn,BF,hf a b,YT hf l m]
theorem ahh (hf:∀ a b d,Q3 (f a b) (f b d) (f a d)):∀ l m n:List α,Q3 (dn f l m) (dn f m n) (dn f l n)
 | [],[],[]=>by simp[dn,Q3]
 | [],[],_::_=>by simp[dn,Q3]
 | [],_::_,[]=>by simp[dn,Q3]
 | [],_::_,_::_=>by simp[dn,Q3]
 | _::_,[],[]=>by simp[dn,Q3]
 | _::_,[],_::_=>by simp[dn,Q3]
 | _::_,_::_,[]=>by simp[dn,Q3]
 | a::l,b::m,d::n=>by
   simp only[dn]
   exact (hf a b d).then (ahh hf l m n)
theorem ag3 {D:α→Prop} (hf:∀ a b,D a→D b→f a b=.eq→a=b):∀ l m:List α,(∀ x∈l,D x)→(∀ x∈m,D x)→dn f l m=.eq→l=m
 | [],[],_,_,_=>rfl
 | [],_::_,_,_,h=>by simp[dn] at h
 | _::_,[],_,_,h=>by simp[dn] at h
 | a::l,b::m,h1,h2,h=>by
   simp only[dn,Qx] at h
   rw[hf a b (h1 a (by simp)) (h2 b (by simp)) h.1,ag3 hf l m (fun x hx=>h1 x (by simp[hx])) (fun x hx=>h2 x (by simp[hx])) h.2]
theorem ao2 (hf:∀ a,f a a=.eq):∀ l:List α,dn f l l=.eq
 | []=>rfl
 | a::l=>by simp only[dn,hf a,ao2 hf l]; rfl
end
theorem Qo:∀ x y:List UInt8,aJR x y=dn aj2 x y
 | [],[]=>rfl
 | [],_::_=>rfl
 | _::_,[]=>rfl
 | a::x,b::y=>by
   have ih:=Qo x y
   simp only[dn,← ih]
   unfold aJR aj2
   simp only[Op.bytesLess,compare,compareOfLessAndEq]
   by_cases h1:a<b
   ·have:a.toNat<b.toNat:=h1
    simp[h1,this,Ordering.then]
   ·have h1' : ¬ a.toNat<b.toNat:=h1
    by_cases h2:a=b
    ·subst h2
     simp[Ordering.then]
    ·have h2' : a.toNat≠b.toNat:=fun e=>h2 (UInt8.toNat_inj.1 e)
     simp[h1,h1',h2,h2',Ordering.then]
theorem aaD (a b:S):lq a b=dn aj2 a.data.toList b.data.toList:=Qo _ _
theorem azt (a b:UInt8):aj2 b a=(aj2 a b).swap:=azQ _ _
theorem aJ8 (a b d:UInt8):Q3 (aj2 a b) (aj2 b d) (aj2 a d):=aKK _ _ _
theorem XU (a b:S):lq b a=(lq a b).swap:=by rw[aaD,aaD]; exact YT azt _ _
theorem ahV (a b d:S):Q3 (lq a b) (lq b d) (lq a d):=by rw[aaD,aaD,aaD]; exact ahh aJ8 _ _ _
theorem aJ4 {a b:S} (h:a.data.toList=b.data.toList):a=b:=ByteArray.ext (Array.ext' h)
theorem uf {a b:S}:sEq a b=true↔a=b:=⟨fun h=>aJ4 (by simpa[sEq] using h),fun h=>by subst h; simp[sEq]⟩
theorem aku {a b:S}:lq a b=.eq↔a=b:=by
 rw[aaD]
 refine⟨fun h=>aJ4 (ag3 (D:=fun _=>True) (fun a b _ _ h=>aqg.1 h) _ _ (fun _ _=>trivial) (fun _ _=>trivial) h),fun h=>by subst h; exact ao2 (fun _=>aqg.2 rfl) _⟩
theorem xk {a b:S}:lq a b=.lt↔sLt a b=true:=by
 unfold lq
 split
 ·simp_all
 ·split<;>simp_all
theorem aum (a:S):sLt a a=false:=by
 cases h:sLt a a with
 | false=>rfl
 | true=>rw[← xk,aku.2 rfl] at h; cases h
theorem aKe {a b d:S} (h:sLt a b=true) (k:sLt b d=true):sLt a d=true:=by
 rw[← xk] at *
 have:=ahV a b d
 rw[h,k] at this
 cases hr:lq a d<;>rw[hr] at this<;>simp[Q3] at this ⊢
theorem aIt (a b:S):sLt a b=true∨a=b∨sLt b a=true:=by
 cases h:lq a b with
 | lt=>exact .inl (xk.1 h)
 | eq=>exact .inr (.inl (aku.1 h))
 | gt=>exact .inr (.inr (xk.1 (by rw[XU,h]; rfl)))
theorem yG {a:S}:eU a=true↔a=ByteArray.empty:=by
 unfold eU
 rw[List.isEmpty_iff]
 exact⟨fun h=>aJ4 (by rw[h]; rfl),fun h=>by subst h; rfl⟩
theorem aG6 (x y:List UInt8):uj y x=(uj x y).swap:=by
 unfold uj; rw[BF,← azQ,Qo,Qo,← YT azt]
theorem aFF (x y z:List UInt8):Q3 (uj x y) (uj y z) (uj x z):=by
 unfold uj; rw[Qo,Qo,Qo]; exact (aKK _ _ _).then (ahh aJ8 _ _ _)
theorem azR {x y:List UInt8}:uj x y=.eq↔x=y:=by
 unfold uj
 rw[Qx,Qo]
 refine⟨fun h=>ag3 (D:=fun _=>True) (fun a b _ _ h=>aqg.1 h) _ _ (fun _ _=>trivial) (fun _ _=>trivial) h.2,fun h=>by subst h; exact⟨Zh.2 rfl,ao2 (fun _=>aqg.2 rfl) _⟩⟩
theorem ajJ (a b:S):eu b a=(eu a b).swap:=by
 unfold eu
 cases neg a<;>cases neg b<;>first|rfl|exact aG6 _ _
theorem aKk (x y z:List UInt8):Q3 (uj y x) (uj z y) (uj z x):=by
 have h:=aFF z y x
 revert h
 generalize uj z y=p; generalize uj y x=q; generalize uj z x=r
 revert p q r
 decide
theorem aGt (a b d:S):Q3 (eu a b) (eu b d) (eu a d):=by
 unfold eu
 cases neg a<;>cases neg b<;>cases neg d<;>simp only
 all_goals first
   | exact aFF _ _ _
   | exact aKk _ _ _
   | (simp[Q3]; done)
   | (simp[Q3]; intro h; cases hh:uj _ _<;>simp_all)
theorem aFW {a b:S} (h:neg a=neg b) (hd:qW a=qW b):a=b:=by
 refine aJ4 ?_
 unfold qW at hd
 rw[h] at hd
 cases hb:neg b with
 | false=>simpa[hb] using hd
 | true =>
   rw[hb] at hd h
   simp only[if_true] at hd
   simp only[neg,beq_iff_eq] at h hb
   cases ha' : a.data.toList with
   | nil=>rw[ha'] at h; cases h
   | cons x l =>
     cases hb' : b.data.toList with
     | nil=>rw[hb'] at hb; cases hb
     | cons y m=>rw[ha',hb'] at hd; rw[ha'] at h; rw[hb'] at hb; simp at h hb hd; subst h; subst hb; rw[hd]
theorem aLZ {a b:S}:eu a b=.eq↔a=b:=by
 refine⟨fun h=>?_,fun h=>?_⟩
 ·unfold eu at h
  cases ha:neg a<;>cases hb:neg b<;>simp only[ha,hb,azR] at h
  ·exact aFW (ha.trans hb.symm) h
  ·cases h
  ·cases h
  ·exact aFW (ha.trans hb.symm) h.symm
 ·subst h
  unfold eu
  cases neg a<;>simp[azR.2]
theorem Um {o:Ordering} {a b:S} (h:a≠b):nI o a b=if eU a then o else if eU b then o.swap else eu a b:=by
 unfold nI; rw[if_neg (fun h'=>h (uf.1 h'))]
theorem RU {o:Ordering} {a:S}:nI o a a=.eq:=by
 unfold nI; rw[if_pos (uf.2 rfl)]
theorem ajA {o:Ordering} (ho:o≠.eq) {a b:S}:nI o a b=.eq↔a=b:=by
 by_cases h:a=b
 ·subst h; simp[RU]
 ·rw[Um h]
  simp only[h,iff_false]
  split
  ·exact ho
  ·split
   ·cases o<;>first|exact absurd rfl ho|decide
   ·rw[aLZ]; exact h
theorem afM (o:Ordering) (a b:S):nI o b a=(nI o a b).swap:=by
 by_cases h:a=b
 ·subst h; rw[RU]; rfl
 ·rw[Um h,Um (Ne.symm h)]
  by_cases ha:eU a=true<;>by_cases hb:eU b=true
  ·exact absurd ((yG.1 ha).trans (yG.1 hb).symm) h
  ·rw[if_neg hb,if_pos ha,if_pos ha]
  ·rw[if_pos hb,if_neg ha,if_pos hb]; cases o<;>rfl
  ·rw[if_neg hb,if_neg ha,if_neg ha,if_neg hb]; exact ajJ _ _
theorem atN (o:Ordering) (ho:o≠.eq) (a b d:S):Q3 (nI o a b) (nI o b d) (nI o a d):=by
 by_cases hab:a=b
 ·subst hab
  rw[RU]
  generalize nI o a d=r; revert r; decide
 by_cases hbd:b=d
 ·subst hbd
  rw[RU]
  generalize nI o a b=r; revert r; decide
 by_cases had:a=d
 ·subst had
  rw[afM o a b,RU]
  have:nI o a b≠.eq:=fun h=>hab ((ajA ho).1 h)
  revert this
  generalize nI o a b=r; revert r; decide
 rw[Um hab,Um hbd,Um had]
 by_cases ha:eU a=true<;>by_cases hb:eU b=true<;>by_cases hd:eU d=true
 all_goals first
   | exact absurd ((yG.1 ha).trans (yG.1 hb).symm) hab
   | exact absurd ((yG.1 hb).trans (yG.1 hd).symm) hbd
   | exact absurd ((yG.1 ha).trans (yG.1 hd).symm) had
   | skip
 ·rw[if_pos ha,if_neg hb,if_neg hd,if_pos ha]
  generalize eu b d=r; clear ha hb hd hab hbd had; revert r; cases o<;>first|exact absurd rfl ho|decide
 ·rw[if_neg ha,if_pos hb,if_pos hb,if_neg ha,if_neg hd]
  generalize eu a d=r; clear ha hb hd hab hbd had; revert r; cases o<;>first|exact absurd rfl ho|decide
 ·rw[if_neg ha,if_neg hb,if_neg hb,if_pos hd,if_neg ha,if_pos hd]
  generalize eu a b=r; clear ha hb hd hab hbd had; revert r; cases o<;>first|exact absurd rfl ho|decide
 ·rw[if_neg ha,if_neg hb,if_neg hb,if_neg hd,if_neg ha,if_neg hd]
  exact aGt _ _ _
theorem aEr (a b:Span):oH b a=(oH a b).swap:=by unfold oH; rw[BF,← afM,← afM]
theorem aKW (a b d:Span):Q3 (oH a b) (oH b d) (oH a d):=(atN _ (by decide) _ _ _).then (atN _ (by decide) _ _ _)
theorem aJN {a b:Span}:oH a b=.eq↔a=b:=by
 unfold oH
 rw[Qx,ajA (by decide),ajA (by decide)]
 cases a; cases b; simp
theorem aGb (a b:Int):vk b a=(vk a b).swap:=by
 unfold vk
 by_cases ha:a<0<;>by_cases hb:b<0<;>simp[ha,hb]
 exact aon _ _
theorem aLm (a b d:Int):Q3 (vk a b) (vk b d) (vk a d):=by
 unfold vk
 by_cases ha:a<0<;>by_cases hb:b<0<;>by_cases hd:d<0<;>simp only[ha,hb,hd,if_true,if_false]
 all_goals first
   | decide
   | exact aGk _ _ _
   | (simp[Q3]; done)
   | (generalize compare _ _=r; revert r; decide)
theorem amC {a b:Int} (ha : -1≤a) (hb : -1≤b):vk a b=.eq↔a=b:=by
 unfold vk
 split<;>split
 ·simp; omega
 ·simp; omega
 ·simp; omega
 ·exact adT
mutual
theorem aod:∀ a b:Ty,l8 b a=(l8 a b).swap
 | .mk a b c d ns e ts as os,.mk a' b' c' d' ns' e' ts' as' os'=>by
   simp only[l8,BF,← azE,← YT aEr,← YT XU,← avf as as',← avk os os']
theorem aKb:∀ a b:Arr,yX b a=(yX a b).swap
 | .mk t lo hi,.mk t' lo' hi'=>by simp only[yX,BF,← aon,← aGb,← aod t t']
theorem aiF:∀ a b:Ob,oh b a=(oh a b).swap
 | .mk ns fs ms r,.mk ns' fs' ms' r'=>by simp only[oh,BF,← YT XU,← YT azE,← avx fs fs',← aod r r']
theorem avf:∀ a b:List Arr,qz b a=(qz a b).swap
 | [],[]=>by simp[qz]
 | [],_::_=>by simp[qz]
 | _::_,[]=>by simp[qz]
 | a::l,b::m=>by simp only[qz,BF,← aKb a b,← avf l m]
theorem avk:∀ a b:List Ob,qo b a=(qo a b).swap
 | [],[]=>by simp[qo]
 | [],_::_=>by simp[qo]
 | _::_,[]=>by simp[qo]
 | a::l,b::m=>by simp only[qo,BF,← aiF a b,← avk l m]
theorem avx:∀ a b:List Ty,qL b a=(qL a b).swap
 | [],[]=>by simp[qL]
 | [],_::_=>by simp[qL]
 | _::_,[]=>by simp[qL]
 | a::l,b::m=>by simp only[qL,BF,← aod a b,← avx l m]
end
mutual
theorem aEm:∀ a b d:Ty,Q3 (l8 a b) (l8 b d) (l8 a d)
 | .mk _ _ _ _ _ _ _ as os,.mk _ _ _ _ _ _ _ as' os',.mk _ _ _ _ _ _ _ as'' os''=>by
   simp only[l8]
   exact (akx _ _ _).then ((akx _ _ _).then ((akx _ _ _).then ((akx _ _ _).then ((ahh aKW _ _ _).then ((akx _ _ _).then ((ahh ahV _ _ _).then ((aIy as as' as'').then (aH1 os os' os''))))))))
theorem aPy:∀ a b d:Arr,Q3 (yX a b) (yX b d) (yX a d)
 | .mk t _ _,.mk t' _ _,.mk t'' _ _=>by
   simp only[yX]
   exact (aGk _ _ _).then ((aLm _ _ _).then (aEm t t' t''))
theorem awf:∀ a b d:Ob,Q3 (oh a b) (oh b d) (oh a d)
 | .mk _ fs _ r,.mk _ fs' _ r',.mk _ fs'' _ r''=>by
   simp only[oh]
   exact (ahh ahV _ _ _).then ((ahh akx _ _ _).then ((aIa fs fs' fs'').then (aEm r r' r'')))
theorem aIy:∀ a b d:List Arr,Q3 (qz a b) (qz b d) (qz a d)
 | [],[],[]=>by simp[qz,Q3]
 | [],[],_::_=>by simp[qz,Q3]
 | [],_::_,[]=>by simp[qz,Q3]
 | [],_::_,_::_=>by simp[qz,Q3]
 | _::_,[],[]=>by simp[qz,Q3]
 | _::_,[],_::_=>by simp[qz,Q3]
 | _::_,_::_,[]=>by simp[qz,Q3]
 | a::l,b::m,d::n=>by
   simp only[qz]
   exact (aPy a b d).then (aIy l m n)
theorem aH1:∀ a b d:List Ob,Q3 (qo a b) (qo b d) (qo a d)
 | [],[],[]=>by simp[qo,Q3]
 | [],[],_::_=>by simp[qo,Q3]
 | [],_::_,[]=>by simp[qo,Q3]
 | [],_::_,_::_=>by simp[qo,Q3]
 | _::_,[],[]=>by simp[qo,Q3]
 | _::_,[],_::_=>by simp[qo,Q3]
 | _::_,_::_,[]=>by simp[qo,Q3]
 | a::l,b::m,d::n=>by
   simp only[qo]
   exact (awf a b d).then (aH1 l m n)
theorem aIa:∀ a b d:List Ty,Q3 (qL a b) (qL b d) (qL a d)
 | [],[],[]=>by simp[qL,Q3]
 | [],[],_::_=>by simp[qL,Q3]
 | [],_::_,[]=>by simp[qL,Q3]
 | [],_::_,_::_=>by simp[qL,Q3]
 | _::_,[],[]=>by simp[qL,Q3]
 | _::_,[],_::_=>by simp[qL,Q3]
 | _::_,_::_,[]=>by simp[qL,Q3]
 | a::l,b::m,d::n=>by
   simp only[qL]
   exact (aEm a b d).then (aIa l m n)
end
mutual
def ahK:Ty→Prop
 | .mk _ _ _ _ _ _ _ as os=>ak1 as∧aj7 os
def ak1:List Arr→Prop
 | []=>True
 | .mk t _ hi::l=>(-1≤hi∧ahK t)∧ak1 l
def aj7:List Ob→Prop
 | []=>True
 | .mk _ fs _ r::l=>(agV fs∧ahK r)∧aj7 l
def agV:List Ty→Prop
 | []=>True
 | t::l=>ahK t∧agV l
end
theorem aqe {l m:List S} (h:dn lq l m=.eq):l=m:=ag3 (D:=fun _=>True) (fun _ _ _ _ h=>aku.1 h) _ _ (fun _ _=>trivial) (fun _ _=>trivial) h
theorem aOz {l m:List Bool} (h:dn l5 l m=.eq):l=m:=ag3 (D:=fun _=>True) (fun _ _ _ _ h=>axy.1 h) _ _ (fun _ _=>trivial) (fun _ _=>trivial) h
theorem aN3 {l m:List Span} (h:dn oH l m=.eq):l=m:=ag3 (D:=fun _=>True) (fun _ _ _ _ h=>aJN.1 h) _ _ (fun _ _=>trivial) (fun _ _=>trivial) h
mutual
theorem axV:∀ a b:Ty,ahK a→ahK b→l8 a b=.eq→a=b
 | .mk _ _ _ _ _ _ _ as os,.mk _ _ _ _ _ _ _ as' os',h1,h2,h=>by
   simp only[l8,Qx,axy] at h
   obtain⟨rfl,rfl,rfl,rfl,e1,rfl,e2,e3,e4⟩:=h
   rw[aN3 e1,aqe e2,azK as as' h1.1 h2.1 e3,aou os os' h1.2 h2.2 e4]
theorem azK : ∀ a b:List Arr,ak1 a→ak1 b→qz a b=.eq→a=b
 | [],[],_,_,_=>rfl
 | [],_::_,_,_,h=>by simp[qz] at h
 | _::_,[],_,_,h=>by simp[qz] at h
 | .mk t lo hi::l,.mk t' lo' hi'::m,h1,h2,h=>by
   simp only[qz,yX,Qx,adT,amC h1.1.1 h2.1.1] at h
   obtain⟨⟨rfl,rfl,e1⟩,e2⟩:=h
   rw[axV t t' h1.1.2 h2.1.2 e1,azK l m h1.2 h2.2 e2]
theorem aou : ∀ a b:List Ob,aj7 a→aj7 b→qo a b=.eq→a=b
 | [],[],_,_,_=>rfl
 | [],_::_,_,_,h=>by simp[qo] at h
 | _::_,[],_,_,h=>by simp[qo] at h
 | .mk ns fs ms r::l,.mk ns' fs' ms' r'::m,h1,h2,h=>by
   simp only[qo,oh,Qx] at h
   obtain⟨⟨e1,e2,e3,e4⟩,e5⟩:=h
   rw[aqe e1,aOz e2,azr fs fs' h1.1.1 h2.1.1 e3,axV r r' h1.1.2 h2.1.2 e4,aou l m h1.2 h2.2 e5]
theorem azr : ∀ a b:List Ty,agV a→agV b→qL a b=.eq→a=b
 | [],[],_,_,_=>rfl
 | [],_::_,_,_,h=>by simp[qL] at h
 | _::_,[],_,_,h=>by simp[qL] at h
 | t::l,t'::m,h1,h2,h=>by
   simp only[qL,Qx] at h
   rw[axV t t' h1.1 h2.1 h.1,azr l m h1.2 h2.2 h.2]
end
end Go.Tidy
namespace Go.Tidy
section
variable {α:Type} {f:α→α→Ordering}
def SS (f:α→α→Ordering) (l:List α):Prop:=l.Pairwise fun a b=>f a b=.lt
theorem adz (hs:∀ a b,f b a=(f a b).swap) (a:α):f a a=.eq:=by
 have:=hs a a
 cases h:f a a<;>rw[h] at this<;>simp_all
theorem av5 (hs:∀ a b,f b a=(f a b).swap):∀ {l m:List α},SS f l→SS f m→(∀ x,x∈l↔x∈m)→l=m
 | [],[],_,_,_=>rfl
 | [],b::m,_,_,h=>by have:=(h b).2 (by simp); simp at this
 | a::l,[],_,_,h=>by have:=(h a).1 (by simp); simp at this
 | a::l,b::m,h1,h2,h=>by
   unfold SS at h1 h2
   rw[List.pairwise_cons] at h1 h2
   have e:a=b:=by
    rcases List.mem_cons.1 ((h a).1 (by simp)) with e|ha
    ·exact e
    ·rcases List.mem_cons.1 ((h b).2 (by simp)) with e|hb
     ·exact e.symm
     ·have k1:=h1.1 b hb
      have k2:=h2.1 a ha
      rw[hs b a,k2] at k1
      cases k1
   subst e
   congr 1
   refine av5 hs h1.2 h2.2 fun x=>⟨fun hx=>?_,fun hx=>?_⟩
   ·rcases List.mem_cons.1 ((h x).1 (List.mem_cons_of_mem _ hx)) with e|hm
    ·subst e
     have:=h1.1 x hx
     rw[adz hs] at this; cases this
    ·exact hm
   ·rcases List.mem_cons.1 ((h x).2 (List.mem_cons_of_mem _ hx)) with e|hm
    ·subst e
     have:=h2.1 x hx
     rw[adz hs] at this; cases this
    ·exact hm
def Aj (f:α→α→Ordering) (o:α):List α→List α
 | []=>[o]
 | x::l=>match f o x with
   | .lt=>o::x::l
   | .eq=>x::l
   | .gt=>x::Aj f o l
theorem aeU (hQ:∀ a b d,Q3 (f a b) (f b d) (f a d)) {a b d:α} (h:f a b=.lt) (k:f b d=.lt):f a d=.lt:=by
 have:=hQ a b d
 rw[h,k] at this
 cases hr:f a d<;>rw[hr] at this<;>simp[Q3] at this ⊢
theorem asA {D:α→Prop} (he:∀ a b,D a→D b→f a b=.eq→a=b) {o:α} (ho:D o):∀ {l:List α},(∀ x∈l,D x)→∀ y,y∈Aj f o l↔y=o∨y∈l
 | [],_,y=>by simp[Aj]
 | x::l,hl,y=>by
   simp only[Aj]
   split
   ·simp
   ·rename_i h
    have:=he o x ho (hl x (by simp)) h
    subst this
    simp
   ·rw[List.mem_cons,asA he ho (fun z hz=>hl z (by simp[hz])) y,List.mem_cons]
    exact⟨fun h=>by rcases h with h|h|h<;>simp[h],fun h=>by rcases h with h|h|h<;>simp[h]⟩
theorem aHU {D:α→Prop} (hs:∀ a b,f b a=(f a b).swap) (hQ:∀ a b d,Q3 (f a b) (f b d) (f a d)) (he:∀ a b,D a→D b→f a b=.eq→a=b) {o:α} (ho:D o):∀ {l:List α},(∀ x∈l,D x)→SS f l→SS f (Aj f o l)
 | [],_,_=>by simp[Aj,SS]
 | x::l,hl,h=>by
   unfold SS at h ⊢
   rw[List.pairwise_cons] at h
   simp only[Aj]
   split
   ·rename_i hlt
    rw[List.pairwise_cons,List.pairwise_cons]
    refine⟨fun y hy=>?_,h.1,h.2⟩
    rcases List.mem_cons.1 hy with rfl|hy
    ·exact hlt
    ·exact aeU hQ hlt (h.1 y hy)
   ·rw[List.pairwise_cons]; exact h
   ·rename_i hgt
    rw[List.pairwise_cons]
    refine⟨fun y hy=>?_,aHU hs hQ he ho (fun z hz=>hl z (by simp[hz])) h.2⟩
    rcases (asA he ho (fun z hz=>hl z (by simp[hz])) y).1 hy with rfl|hy
    ·rw[hs,hgt]; rfl
    ·exact h.1 y hy
def GU (f:α→α→Ordering) (l:List α):List α:=l.foldl (fun acc o=>Aj f o acc) []
theorem apB {D:α→Prop} (hs:∀ a b,f b a=(f a b).swap) (hQ:∀ a b d,Q3 (f a b) (f b d) (f a d)) (he:∀ a b,D a→D b→f a b=.eq→a=b) (l:List α) (hl:∀ x∈l,D x) :
 SS f (GU f l)∧∀ y,y∈GU f l↔y∈l:=by
 have key:∀ (l acc:List α),(∀ x∈l,D x)→(∀ x∈acc,D x)→SS f acc→SS f (l.foldl (fun acc o=>Aj f o acc) acc)∧∀ y,y∈l.foldl (fun acc o=>Aj f o acc) acc↔y∈acc∨y∈l:=by
  intro l
  induction l with
  | nil=>intro acc _ _ h; exact⟨h,by simp⟩
  | cons o l ih =>
    intro acc hl ha h
    have ho:=hl o (by simp)
    have hm:=asA he ho ha
    obtain⟨k1,k2⟩:=ih (Aj f o acc) (fun x hx=>hl x (by simp[hx])) (fun x hx=>by
     rcases (hm x).1 hx with rfl|hx
     ·exact ho
     ·exact ha x hx) (aHU hs hQ he ho ha h)
    refine⟨k1,fun y=>?_⟩
    rw[List.foldl_cons,k2 y,hm y,List.mem_cons]
    exact⟨fun h=>by rcases h with (h|h)|h<;>simp[h],fun h=>by rcases h with h|h|h<;>simp[h]⟩
 obtain⟨k1,k2⟩:=key l [] hl (by simp) (by simp[SS])
 exact⟨k1,fun y=>(k2 y).trans (by simp)⟩
def qm (e:α→α→Bool):List α→List α
 | []=>[]
 | [a]=>[a]
 | a::b::l=>if e b a then (match qm e (b::l) with|_::m=>a::m|[]=>[a]) else a::qm e (b::l)
theorem apO {D:α→Prop} (hs:∀ a b,f b a=(f a b).swap) (hQ:∀ a b d,Q3 (f a b) (f b d) (f a d)) (he:∀ a b,D a→D b→f a b=.eq→a=b):∀ (l:List α),(∀ x∈l,D x)→l.Pairwise (fun a b=>f a b≠.gt) →
 SS f (qm (fun a b=>f a b == .eq) l)∧(∀ y,y∈qm (fun a b=>f a b == .eq) l↔y∈l)∧(qm (fun a b=>f a b == .eq) l).head? = l.head?
 | [],_,_=>by simp[qm,SS]
 | [a],_,_=>by simp[qm,SS]
 | a::b::l,hl,h=>by
   rw[List.pairwise_cons] at h
   obtain⟨k1,k2,k3⟩:=apO hs hQ he (b::l) (fun x hx=>hl x (by simp[hx])) h.2
   simp only[qm]
   split
   ·rename_i heq
    have e:b=a:=he b a (hl b (by simp)) (hl a (by simp)) (by simpa using heq)
    subst e
    cases hc:qm (fun a b=>f a b == .eq) (b::l) with
    | nil=>rw[hc] at k3; simp at k3
    | cons c m =>
      rw[hc] at k1 k2 k3
      simp only[List.head?_cons,Option.some.injEq] at k3
      subst k3
      refine⟨k1,fun y=>?_,rfl⟩
      rw[k2 y]
      simp
   ·rename_i hne
    have hlt:f a b=.lt:=by
     have h1:=h.1 b (by simp)
     cases hab:f a b with
     | lt=>rfl
     | eq=>rw[hs a b,hab] at hne; exact absurd rfl hne
     | gt=>exact absurd hab h1
    refine⟨?_,fun y=>by rw[List.mem_cons,k2 y,List.mem_cons (a:=y) (b:=a)],rfl⟩
    unfold SS
    rw[List.pairwise_cons]
    refine⟨fun y hy=>?_,k1⟩
    rcases List.mem_cons.1 ((k2 y).1 hy) with rfl|hy'
    ·exact hlt
    ·have h2:=(List.pairwise_cons.1 h.2).1 y hy'
     cases hby:f b y with
     | lt=>exact aeU hQ hlt hby
     | eq =>
       have:=he b y (hl b (by simp)) (hl y (by simp[hy'])) hby
       subst this; exact hlt
     | gt=>exact absurd hby h2
theorem aJP {D:α→Prop} (hs:∀ a b,f b a=(f a b).swap) (hQ:∀ a b d,Q3 (f a b) (f b d) (f a d)) (he:∀ a b,D a→D b→f a b=.eq→a=b) (l l' : List α) (hl:∀ x∈l,D x) (hp:l'.Perm l) (h:l'.Pairwise (fun a b=>f a b≠.gt)) :
 qm (fun a b=>f a b == .eq) l'=GU f l:=by
 obtain⟨k1,k2,_⟩:=apO hs hQ he l' (fun x hx=>hl x (hp.mem_iff.1 hx)) h
 obtain⟨g1,g2⟩:=apB hs hQ he l hl
 exact av5 hs k1 g1 fun x=>by rw[k2 x,g2 x]; exact hp.mem_iff
end
abbrev SSs (l:List S):Prop:=SS lq l
theorem zh:∀ (l m:List S) (y:S),y∈fQ l m↔y∈l∨y∈m
 | [],b,y=>by simp[fQ]
 | a::l,[],y=>by simp[fQ]
 | a::l,b::m,y=>by
   unfold fQ
   split
   ·rw[List.mem_cons,zh l (b::m) y]; simp[or_assoc]
   ·split
    ·rw[List.mem_cons,zh (a::l) m y]; simp only[List.mem_cons]; exact⟨fun h=>by rcases h with h|(h|h)|h<;>simp[h],fun h=>by rcases h with (h|h)|h|h<;>simp[h]⟩
    ·rename_i h1 h2
     have e:a=b:=by
      rcases aIt a b with h|h|h
      ·exact absurd h h1
      ·exact h
      ·exact absurd h h2
     subst e
     rw[List.mem_cons,zh l m y]; simp only[List.mem_cons]; exact⟨fun h=>by rcases h with h|h|h<;>simp[h],fun h=>by rcases h with (h|h)|h|h<;>simp[h]⟩
termination_by l m=>l.length+m.length
theorem ae2:∀ (l m:List S),SSs l→SSs m→SSs (fQ l m)
 | [],b,_,h=>by simpa[fQ] using h
 | a::l,[],h,_=>by simpa[fQ] using h
 | a::l,b::m,h1,h2=>by
   unfold fQ
   unfold SSs SS at h1 h2 ⊢
   have h1':=List.pairwise_cons.1 h1
   have h2':=List.pairwise_cons.1 h2
   split
   ·rename_i hlt
    rw[List.pairwise_cons]
    refine⟨fun y hy=>?_,ae2 l (b::m) h1'.2 h2⟩
    rcases (zh l (b::m) y).1 hy with hy|hy
    ·exact h1'.1 y hy
    ·rcases List.mem_cons.1 hy with rfl|hy
     ·exact xk.2 hlt
     ·exact aeU ahV (xk.2 hlt) (h2'.1 y hy)
   ·split
    ·rename_i hlt
     rw[List.pairwise_cons]
     refine⟨fun y hy=>?_,ae2 (a::l) m h1 h2'.2⟩
     rcases (zh (a::l) m y).1 hy with hy|hy
     ·rcases List.mem_cons.1 hy with rfl|hy
      ·exact xk.2 hlt
      ·exact aeU ahV (xk.2 hlt) (h1'.1 y hy)
     ·exact h2'.1 y hy
    ·rename_i k1 k2
     have e:a=b:=by
      rcases aIt a b with h|h|h
      ·exact absurd h k1
      ·exact h
      ·exact absurd h k2
     subst e
     rw[List.pairwise_cons]
     refine⟨fun y hy=>?_,ae2 l m h1'.2 h2'.2⟩
     rcases (zh l m y).1 hy with hy|hy
     ·exact h1'.1 y hy
     ·exact h2'.1 y hy
termination_by l m=>l.length+m.length
theorem Qh (l:List S):SSs (GU lq l)∧∀ y,y∈GU lq l↔y∈l :=
 apB (D:=fun _=>True) XU ahV (fun _ _ _ _ h=>aku.1 h) l (fun _ _=>trivial)
theorem als {l:List S} {m:List S} (h:SSs m) (hm:∀ y,y∈m↔y∈l):m=GU lq l :=
 av5 XU h (Qh l).1 fun x=>by rw[hm x,(Qh l).2 x]
theorem JV:∀ {l:List S},iQ l=true→SSs l∧∀ s∈l,Xu s=true
 | [],_=>by simp[SS]
 | [a],h=>by simp[iQ] at h; simp[SS,h]
 | a::b::l,h=>by
   simp only[iQ,Bool.and_eq_true] at h
   obtain⟨k1,k2⟩:=JV h.2
   refine⟨?_,fun s hs=>?_⟩
   ·have k1':=k1
    unfold SSs SS at k1 ⊢
    rw[List.pairwise_cons] at k1 ⊢
    refine⟨fun y hy=>?_,k1'⟩
    rcases List.mem_cons.1 hy with rfl|hy
    ·exact xk.2 h.1.2
    ·exact aeU ahV (xk.2 h.1.2) (k1.1 y hy)
   ·rcases List.mem_cons.1 hs with rfl|hs
    ·exact h.1.1
    ·exact k2 s hs
theorem alO:∀ {l:List S},SSs l→(∀ s∈l,Xu s=true)→iQ l=true
 | [],_,_=>rfl
 | [a],_,h=>by simpa[iQ] using h
 | a::b::l,h,hu=>by
   unfold SSs SS at h
   have h':=List.pairwise_cons.1 h
   simp only[iQ,Bool.and_eq_true]
   exact⟨⟨hu a (by simp),xk.1 (h'.1 b (by simp))⟩,alO h'.2 (fun s hs=>hu s (by simp[hs]))⟩
theorem aFU {l m:List S} (h:iQ l=true) (k:iQ m=true):iQ (fQ l m)=true:=by
 obtain⟨h1,h2⟩:=JV h
 obtain⟨k1,k2⟩:=JV k
 exact alO (ae2 l m h1 k1) fun s hs=>((zh l m s).1 hs).elim (h2 s) (k2 s)
theorem aeI (a b:Ob):l8 (jk a) (jk b)=oh a b:=by
 simp[jk,l8,l5,dn,qz,qo,Ordering.then]
 cases oh a b<;>rfl
theorem aIe (o:Ob):∀ l:List Ob,aav o l=Aj oh o l
 | []=>rfl
 | x::l=>by
   simp only[aav,Aj,aeI,aIe o l]
   cases oh o x<;>rfl
theorem axu (l:List Ob):iY l=GU oh l:=by
 unfold iY GU
 congr 1
 funext acc o
 exact aIe o acc
def aic (o:Ob):Prop:=agV o.fields∧ahK o.rest
theorem aIu {a b:Ob} (ha:aic a) (hb:aic b) (h:oh a b=.eq):a=b:=by
 obtain⟨n1,f1,m1,r1⟩:=a
 obtain⟨n2,f2,m2,r2⟩:=b
 have:=aou [.mk n1 f1 m1 r1] [.mk n2 f2 m2 r2] ⟨ha,trivial⟩ ⟨hb,trivial⟩ (by simp only[qo,h]; rfl)
 simpa using this
theorem aHz (l l' : List Ob) (hl:∀ x∈l,aic x) (hp:l'.Perm l) (h:l'.Pairwise (fun a b=>oh a b≠.gt)):qm (fun a b=>oh a b == .eq) l'=iY l:=by
 rw[axu]
 exact aJP (D:=aic) aiF awf (fun _ _=>aIu) l l' hl hp h
end Go.Tidy
namespace Go.Tidy
section
variable {α:Type}
def Zq (l:List α) (a b:Nat):List α:=match l[a]?,l[b]? with
 | some x,some y=>(l.set a y).set b x
 | _,_=>l
theorem aLo (l:List α) (a b:Nat):(Zq l a b).length=l.length:=by
 unfold Zq; split<;>simp
def wh (l:List α) (a b:Nat):Nat→List α
 | 0=>l
 | n+1=>Zq (wh l a b n) (a+n) (b+n)
theorem auG (l:List α) (a b:Nat):∀ n,(wh l a b n).length=l.length
 | 0=>rfl
 | n+1=>by rw[wh,aLo,auG l a b n]
theorem aDB (P Q R:List α) (u v:α) {a b:Nat} (ha:a=P.length) (hb:b=P.length+1+Q.length):Zq (P++u::(Q++v::R)) a b=P++v::(Q++u::R):=by
 subst ha; subst hb
 have e1:(P++u::(Q++v::R))[P.length]? = some u:=by simp
 have e2:(P++u::(Q++v::R))[P.length+1+Q.length]? = some v:=by
  rw[List.getElem?_append_right (by omega),show P.length+1+Q.length-P.length=Q.length+1 by omega]
  simp
 unfold Zq
 rw[e1,e2]
 simp only
 rw[List.set_append_right _ _ (Nat.le_refl _),Nat.sub_self,List.set_cons_zero,List.set_append_right _ _ (by omega),show P.length+1+Q.length-P.length=Q.length+1 by omega,List.set_cons_succ,List.set_append_right _ _ (Nat.le_refl _),Nat.sub_self,List.set_cons_zero]
theorem azZ (P Q R:List α) (u v:α) {a b:Nat} (ha:a=P.length) (hb:b=P.length+1+Q.length):Zq (P++u::(Q++v::R)) b a=P++v::(Q++u::R):=by
 subst ha; subst hb
 have e1:(P++u::(Q++v::R))[P.length]? = some u:=by simp
 have e2:(P++u::(Q++v::R))[P.length+1+Q.length]? = some v:=by
  rw[List.getElem?_append_right (by omega),show P.length+1+Q.length-P.length=Q.length+1 by omega]
  simp
 unfold Zq
 rw[e1,e2]
 simp only
 rw[List.set_append_right _ _ (by omega),show P.length+1+Q.length-P.length=Q.length+1 by omega,List.set_cons_succ,List.set_append_right _ _ (Nat.le_refl _),Nat.sub_self,List.set_cons_zero,List.set_append_right _ _ (Nat.le_refl _),Nat.sub_self,List.set_cons_zero]
theorem xw {l:List α} {k:Nat} (h:k<l.length):l.drop k=l[k]::l.drop (k+1):=List.drop_eq_getElem_cons h
theorem aGl (p x z y q:List α) {n a b:Nat} (hx:x.length=n) (hy:y.length=n) (ha:a=p.length) (hb:b=p.length+n+z.length) :
 wh (p++x++z++y++q) a b n=p++y++z++x++q:=by
 have key:∀ k,k≤n→wh (p++x++z++y++q) a b k=p++(y.take k++x.drop k)++z++(x.take k++y.drop k)++q:=by
  intro k
  induction k with
  | zero=>intro _; simp[wh]
  | succ k ih =>
    intro hk
    rw[wh,ih (by omega)]
    have h1:k<x.length:=by omega
    have h2:k<y.length:=by omega
    rw[xw h1,xw h2,List.take_succ_eq_append_getElem h1,List.take_succ_eq_append_getElem h2]
    have e:=aDB (p++y.take k) (x.drop (k+1)++z++x.take k) (y.drop (k+1)++q) x[k] y[k] (a:=a+k) (b:=b+k) (by simp; omega) (by simp; omega)
    simp only[List.append_assoc,List.cons_append,List.nil_append,List.singleton_append] at e ⊢
    exact e
 rw[key n (Nat.le_refl _)]
 simp[← hx,List.take_of_length_le (show y.length≤x.length by omega),List.drop_of_length_le (show y.length≤x.length by omega)]
variable {f:α→α→Ordering}
def Srt (f:α→α→Ordering) (l:List α):Prop:=l.Pairwise fun a b=>f a b≠.gt
def Tot (f:α→α→Ordering):Prop:=(∀ a b,f b a=(f a b).swap)∧∀ a b d,Q3 (f a b) (f b d) (f a d)
theorem Tot.trans (h:Tot f) {a b d:α} (h1:f a b≠.gt) (h2:f b d≠.gt):f a d≠.gt:=by
 have:=(h.2 a b d).1
 have e:∀ o:Ordering,o≠.gt↔o.isLE=true:=by intro o; cases o<;>simp
 rw[e] at h1 h2 ⊢
 exact this h1 h2
theorem Tot.aDa (h:Tot f) {a b:α} (h1:f a b=.lt):f a b≠.gt:=by rw[h1]; decide
theorem Tot.nlt (h:Tot f) {a b:α} (h1:f a b≠.lt):f b a≠.gt:=by
 rw[h.1 a b]; cases e:f a b<;>simp_all
theorem aaV (f:α→α→Ordering) {l m:List α}:Srt f (l++m)↔Srt f l∧Srt f m∧∀ a∈l,∀ b∈m,f a b≠.gt:=List.pairwise_append
theorem aOp:Srt f []:=List.Pairwise.nil
theorem aOc (a:α):Srt f [a]:=List.pairwise_singleton _ _
theorem adL {a:α} {l:List α}:Srt f (a::l)↔(∀ b∈l,f a b≠.gt)∧Srt f l:=List.pairwise_cons
theorem aDG {l:List α} (h:Srt f l) (k:Nat):Srt f (l.take k):=List.Pairwise.sublist (List.take_sublist _ _) h
theorem alH {l:List α} (h:Srt f l) (k:Nat):Srt f (l.drop k):=List.Pairwise.sublist (List.drop_sublist _ _) h
theorem ayO {z1 z2:List α} {v:α} (h:Tot f) (hz:Srt f (z1++z2)) (h1:∀ x∈z1.getLast?,f x v≠.gt) (h2:∀ x∈z2,f v x≠.gt):Srt f (z1++v::z2):=by
 obtain⟨a,b,c⟩:=(aaV f).1 hz
 refine (aaV f).2 ⟨a,adL.2 ⟨h2,b⟩,fun x hx y hy=>?_⟩
 rcases List.mem_cons.1 hy with rfl|hy
 ·cases hl:z1.getLast? with
  | none=>rw[List.getLast?_eq_none_iff] at hl; subst hl; simp at hx
  | some u =>
    rw[hl] at h1
    have hu:=h1 u rfl
    obtain⟨w,rfl⟩:=List.getLast?_eq_some_iff.1 hl
    rcases List.mem_append.1 hx with hx|hx
    ·obtain⟨_,_,d⟩:=(aaV f).1 a
     exact h.trans (d x hx u (by simp)) hu
    ·rw[List.mem_singleton.1 hx]; exact hu
 ·exact c x hx y hy
theorem aLc {y:List α} {u:α} {i:Nat} (h:Tot f) (hy:Srt f y) (hi:i≤y.length) (h1:∀ k (hk:k<y.length),k+1=i→f y[k] u=.lt) (h2:∀ (hk:i<y.length),f y[i] u≠.lt) :
 Srt f (y.take i++u::y.drop i):=by
 refine ayO h (by rw[List.take_append_drop]; exact hy) (fun x hx=>?_) (fun x hx=>?_)
 ·cases i with
  | zero=>simp at hx
  | succ i =>
    have e:=List.take_succ_eq_append_getElem (l:=y) (i:=i) (by omega)
    rw[e,List.getLast?_concat] at hx
    simp only[Option.mem_def,Option.some.injEq] at hx
    subst hx
    exact h.aDa (h1 i (by omega) rfl)
 ·rcases Nat.lt_or_ge i y.length with hlt|hge
  ·rw[xw hlt] at hx
   have g:=h.nlt (h2 hlt)
   have hd:=alH hy i
   rw[xw hlt,adL] at hd
   rcases List.mem_cons.1 hx with rfl|hx
   ·exact g
   ·exact h.trans g (hd.1 x hx)
  ·rw[List.drop_of_length_le hge] at hx; simp at hx
theorem aLk {y:List α} {u:α} {i:Nat} (h:Tot f) (hy:Srt f y) (hi:i≤y.length) (h1:∀ k (hk:k<y.length),k+1=i→f u y[k]≠.lt) (h2:∀ (hk:i<y.length),f u y[i]=.lt) :
 Srt f (y.take i++u::y.drop i):=by
 refine ayO h (by rw[List.take_append_drop]; exact hy) (fun x hx=>?_) (fun x hx=>?_)
 ·cases i with
  | zero=>simp at hx
  | succ i =>
    have e:=List.take_succ_eq_append_getElem (l:=y) (i:=i) (by omega)
    rw[e,List.getLast?_concat] at hx
    simp only[Option.mem_def,Option.some.injEq] at hx
    subst hx
    exact h.nlt (h1 i (by omega) rfl)
 ·rcases Nat.lt_or_ge i y.length with hlt|hge
  ·rw[xw hlt] at hx
   have g:=h.aDa (h2 hlt)
   have hd:=alH hy i
   rw[xw hlt,adL] at hd
   rcases List.mem_cons.1 hx with rfl|hx
   ·exact g
   ·exact h.trans g (hd.1 x hx)
  ·rw[List.drop_of_length_le hge] at hx; simp at hx
theorem aK4 {x y:List α} {i j:Nat} (h:Tot f) (hx:Srt f x) (hy:Srt f y) (hi:i≤x.length) (hj:j≤y.length)
 (h1:∀ k (hk:k<x.length) (hj' : j<y.length),k+1=i→f y[j] x[k]≠.lt) (h2:∀ k (hk:k<y.length) (hi' : i<x.length),k+1=j→f y[k] x[i]=.lt) :
 ∀ a∈x.take i++y.take j,∀ b∈x.drop i++y.drop j,f a b≠.gt:=by
 have hxs:=(aaV f).1 (show Srt f (x.take i++x.drop i) by rw[List.take_append_drop]; exact hx)
 have hys:=(aaV f).1 (show Srt f (y.take j++y.drop j) by rw[List.take_append_drop]; exact hy)
 intro a ha0 b hb0
 rcases List.mem_append.1 ha0 with ha|ha<;>rcases List.mem_append.1 hb0 with hb|hb<;>clear ha0 hb0
 ·exact hxs.2.2 a ha b hb
 ·
   have hjl:j<y.length:=by
    rcases Nat.lt_or_ge j y.length with g|g
    ·exact g
    ·rw[List.drop_of_length_le g] at hb; simp at hb
   obtain⟨i',rfl⟩ : ∃ i',i=i'+1:=by
    cases i with
    | zero=>simp at ha
    | succ i'=>exact⟨i',rfl⟩
   have g:=h.nlt (h1 i' (by omega) hjl rfl)
   have g1:f a x[i']≠.gt:=by
    rw[List.take_succ_eq_append_getElem (by omega)] at ha
    rcases List.mem_append.1 ha with ha|ha
    ·have:=hxs.1
     rw[List.take_succ_eq_append_getElem (by omega)] at this
     exact ((aaV f).1 this).2.2 a ha _ (by simp)
    ·rw[List.mem_singleton.1 ha]
     rw[adz h.1]; decide
   have g2:f y[j] b≠.gt:=by
    have hb' : b∈y[j]::y.drop (j+1):=by rw[← xw hjl]; exact hb
    have hd:=hys.2.1
    rw[xw hjl,adL] at hd
    rcases List.mem_cons.1 hb' with rfl|hb'
    ·rw[adz h.1]; decide
    ·exact hd.1 b hb'
   exact h.trans (h.trans g1 g) g2
 ·have hil:i<x.length:=by
     rcases Nat.lt_or_ge i x.length with g|g
     ·exact g
     ·rw[List.drop_of_length_le g] at hb; simp at hb
  obtain⟨j',rfl⟩ : ∃ j',j=j'+1:=by
   cases j with
   | zero=>simp at ha
   | succ j'=>exact⟨j',rfl⟩
  have g:=h.aDa (h2 j' (by omega) hil rfl)
  have g1:f a y[j']≠.gt:=by
   rw[List.take_succ_eq_append_getElem (by omega)] at ha
   rcases List.mem_append.1 ha with ha|ha
   ·have:=hys.1
    rw[List.take_succ_eq_append_getElem (by omega)] at this
    exact ((aaV f).1 this).2.2 a ha _ (by simp)
   ·rw[List.mem_singleton.1 ha]
    rw[adz h.1]; decide
  have g2:f x[i] b≠.gt:=by
   have hb' : b∈x[i]::x.drop (i+1):=by rw[← xw hil]; exact hb
   have hd:=hxs.2.1
   rw[xw hil,adL] at hd
   rcases List.mem_cons.1 hb' with rfl|hb'
   ·rw[adz h.1]; decide
   ·exact hd.1 b hb'
  exact h.trans (h.trans g1 g) g2
 ·exact hys.2.2 a ha b hb
theorem aNl {z1 z2 l m:List α} (h1:Srt f z1) (h2:Srt f z2) (p1:z1.Perm l) (p2:z2.Perm m) (hc:∀ a∈l,∀ b∈m,f a b≠.gt):Srt f (z1++z2) :=
 (aaV f).2 ⟨h1,h2,fun a ha b hb=>hc a (p1.mem_iff.1 ha) b (p2.mem_iff.1 hb)⟩
end
end Go.Tidy
namespace Go.Tidy
section
variable {α:Type} {e:α→α→Bool}
def ad8 (e:α→α→Bool):α→List α→List α
 | _,[]=>[]
 | p,x::l=>if e x p then ad8 e x l else x::ad8 e x l
theorem awj (a:α) (l:List α):qm e (a::l)=a::ad8 e a l:=by
 induction l generalizing a with
 | nil=>rfl
 | cons b l ih =>
   simp only[qm]
   rw[ih b]
   split
   ·rename_i h; simp[ad8,h]
   ·rename_i h; simp[ad8,h]
theorem awr (x:α):∀ (l:List α) (p:α),ad8 e p (l++[x])=ad8 e p l++(if e x ((p::l).getLast (by simp)) then [] else [x])
 | [],p=>by by_cases h:e x p=true<;>simp[ad8,h]
 | y::l,p=>by
   have ih:=awr x l y
   have hl:(p::y::l).getLast (by simp)=(y::l).getLast (by simp):=List.getLast_cons (by simp)
   rw[hl]
   by_cases h:e y p=true
   ·simp only[List.cons_append,ad8,h,if_true]
    exact ih
   ·simp only[List.cons_append,ad8,h,if_false,Bool.false_eq_true]
    exact congrArg (y::·) ih
theorem alz {l:List α} {j:Nat} (h0:0<j) (hj:j<l.length):qm e (l.take (j+1))=qm e (l.take j)++(if e l[j] l[j-1] then [] else [l[j]]):=by
 cases l with
 | nil=>simp at hj
 | cons a l =>
   obtain⟨i,rfl⟩ : ∃ i,j=i+1:=⟨j-1,by omega⟩
   simp only[List.length_cons] at hj
   have hi:i<l.length:=by omega
   rw[List.take_succ_cons,List.take_succ_cons,awj,awj,List.take_succ_eq_append_getElem hi,awr,List.cons_append]
   congr 3
   ·have hlast:(a::l.take i).getLast (by simp)=(a::l)[i]'(by simp; omega):=by
       rw[List.getLast_eq_getElem]
       cases i with
       | zero=>simp
       | succ i=>simp[List.length_take,Nat.min_eq_left (Nat.le_of_lt hi)]
    rw[hlast]
    simp
theorem aoK {l:List α} (h:∀ j (hj:j<l.length),0<j→e l[j] l[j-1]=false):qm e l=l:=by
 have key:∀ k,k≤l.length→qm e (l.take k)=l.take k:=by
  intro k
  induction k with
  | zero=>intro _; simp[qm]
  | succ k ih =>
    intro hk
    rcases Nat.eq_zero_or_pos k with rfl|h0
    ·cases l with
     | nil=>simp at hk
     | cons a l=>simp[qm]
    ·rw[alz h0 (by omega),ih (by omega),h k (by omega) h0]
     simp only[Bool.false_eq_true,if_false]
     exact (List.take_succ_eq_append_getElem (by omega)).symm
 simpa using key l.length (Nat.le_refl _)
end
theorem aG0 (kept:List Ob) (o:Ob) (l:List Ob):dN kept (o::l)=if kept.any (oG o)||l.any (oG o) then dN kept l else dN (kept++[o]) l:=by rw[dN]
theorem aJb (kept:List Ob):dN kept []=kept:=by rw[dN]
end Go.Tidy
namespace Go.Proofs.YtngjnfbngheccaaGreatDoor.Pv
open Go Go.Tidy
theorem ahA:∀ a b:List UInt8,Op.bytesLess a b=decide (a<b)
 | [],[]=>by simp[Op.bytesLess]
 | [],_::_=>by simp[Op.bytesLess]
 | _::_,[]=>by simp[Op.bytesLess]
 | x::a,y::b=>by
   simp only[Op.bytesLess,ahA a b,List.cons_lt_cons_iff]
   by_cases h1:x<y<;>by_cases h2:x=y<;>simp[h1,h2]
theorem aKG {a b:List UInt8} (h:a≤b) (hne:a≠b):a<b:=by
 rcases Classical.em (a<b) with k|k
 ·exact k
 ·exact absurd (List.le_antisymm h (List.not_lt.1 k)) hne
theorem axY (d:Array (List UInt8)) (hs:∀ i j,i<j→j<d.size→d[i]! ≤ d[j]!):∀ m,m≤d.size →
 (Go.Lib.compactUpTo d m).Pairwise (· < ·)∧(∀ x,x∈Go.Lib.compactUpTo d m↔∃ j,j<m∧d[j]! = x):=by
 intro m
 induction m with
 | zero=>intro _; exact⟨by simp[Go.Lib.compactUpTo],fun x=>by simp[Go.Lib.compactUpTo]⟩
 | succ m ih =>
   intro hm
   obtain⟨h1,h2⟩:=ih (by omega)
   rw[Go.Lib.compactUpTo_succ]
   by_cases hk:Go.Lib.keeps d m=true
   ·rw[if_pos hk]
    refine⟨List.pairwise_append.2 ⟨h1,by simp,fun a ha b hb=>?_⟩,fun x=>?_⟩
    ·obtain rfl:b=d[m]! := by simpa using hb
     obtain⟨j,hj,rfl⟩:=(h2 a).1 ha
     have hm0:m≠0:=by omega
     have hne:d[m]!≠d[m-1]! := by
      intro e
      rw[Go.Lib.keeps_neg (by omega) e] at hk; cases hk
     have k1:d[m-1]! < d[m]! := aKG (hs (m-1) m (by omega) (by omega)) (fun e=>hne e.symm)
     by_cases e:j=m-1
     ·rw[e]; exact k1
     ·exact List.lt_of_le_of_lt (hs j (m-1) (by omega) (by omega)) k1
    ·rw[List.mem_append,h2 x]
     constructor
     ·rintro (⟨j,hj,e⟩|h)
      ·exact⟨j,by omega,e⟩
      ·exact⟨m,by omega,by simpa using (List.mem_singleton.1 h).symm⟩
     ·rintro⟨j,hj,e⟩
      by_cases ej:j=m
      ·subst ej; exact .inr (by simp[e])
      ·exact .inl ⟨j,by omega,e⟩
   ·have hk' : Go.Lib.keeps d m=false:=by simpa using hk
    rw[if_neg hk,List.append_nil]
    refine⟨h1,fun x=>?_⟩
    rw[h2 x]
    constructor
    ·rintro⟨j,hj,e⟩; exact⟨j,by omega,e⟩
    ·rintro⟨j,hj,e⟩
     by_cases ej:j=m
     ·subst ej
      have hj0:j≠0:=by
       intro e0; subst e0
       rw[Go.Lib.keeps_lt_one d 0 (by omega)] at hk'; cases hk'
      have hd:d[j]! = d[j-1]! := by
       rcases Classical.em (d[j]! = d[j-1]!) with k|k
       ·exact k
       ·rw[Go.Lib.keeps_pos k] at hk'; cases hk'
      exact⟨j-1,by omega,by rw[← hd]; exact e⟩
     ·exact⟨j,by omega,e⟩
theorem aFv (l:List S):qy (zW l)=GU lq l:=by
 have hmap:((zW l).map fun s=>s.data.toList)=(l.map fun s=>s.data.toList).mergeSort fun x y=>decide (x≤y):=by
  unfold zW
  rw[List.map_map]
  have:((fun s:ByteArray=>s.data.toList)∘fun x:List UInt8=>(⟨x.toArray⟩ : ByteArray))=id:=by funext x; simp
  rw[this,List.map_id]
 generalize hz:((l.map fun s=>s.data.toList).mergeSort fun x y=>decide (x≤y))=z at *
 have hp:z.Pairwise (fun a b=>a≤b):=by
  rw[← hz]
  have:=List.pairwise_mergeSort (le:=fun x y:List UInt8=>decide (x≤y)) (fun a b c h k=>by simp only[decide_eq_true_eq] at *; exact List.le_trans h k) (fun a b=>by simp only[Bool.or_eq_true,decide_eq_true_eq]; exact List.le_total a b) (l.map fun s=>s.data.toList)
  exact this.imp (by simp)
 obtain⟨h1,h2⟩:=axY z.toArray (fun i j hij hj=>by
  have hj' : j<z.length:=by simpa using hj
  rw[getElem!_pos _ i (by simp; omega),getElem!_pos _ j hj]
  exact List.pairwise_iff_getElem.1 hp i j (by omega) hj' hij) z.length (by simp)
 refine als ?_ fun y=>?_
 ·unfold qy Go.Lib.compact
  rw[hmap]
  refine List.pairwise_map.2 (h1.imp fun {a b} h=>?_)
  rw[xk]
  show Op.bytesLess _ _=true
  rw[ahA]
  simpa using h
 ·unfold qy Go.Lib.compact
  rw[hmap,List.mem_map]
  constructor
  ·rintro⟨x,hx,rfl⟩
   obtain⟨j,hj,e⟩:=(h2 x).1 hx
   rw[getElem!_pos _ j (by simpa using hj)] at e
   have hm:x∈z:=by rw[← e]; simp
   rw[← hz,List.mem_mergeSort] at hm
   obtain⟨s,hs,rfl⟩:=List.mem_map.1 hm
   simpa using hs
  ·intro hy
   have hm:y.data.toList∈z:=by
    rw[← hz,List.mem_mergeSort]; exact List.mem_map.2 ⟨y,hy,rfl⟩
   obtain⟨j,hj,e⟩:=List.getElem_of_mem hm
   refine⟨y.data.toList,(h2 _).2 ⟨j,hj,?_⟩,by simp⟩
   rw[getElem!_pos _ j (by simpa using hj)]
   simpa using e
end Go.Proofs.YtngjnfbngheccaaGreatDoor.Pv
namespace Go.Tidy
open Go
mutual
def nmT (n:Nat):Ty→Bool
 | .mk _ _ _ _ _ _ _ as os=>aoL n as&&ao1 n os
def aoL (n:Nat):List Arr→Bool
 | []=>true
 | .mk t _ _::l=>nmT n t&&aoL n l
def ao1 (n:Nat):List Ob→Bool
 | []=>true
 | .mk ns fs _ r::l=>decide (ns.length≤n)&&asw n fs&&nmT n r&&ao1 n l
def asw (n:Nat):List Ty→Bool
 | []=>true
 | t::l=>nmT n t&&asw n l
end
theorem aMb {n:Nat} {l:List Arr} (h:aoL n l=true) {a:Arr} (ha:a∈l):nmT n a.item=true:=by
 induction l with
 | nil=>simp at ha
 | cons b l ih =>
   obtain⟨t,lo,hi⟩:=b
   simp only[aoL,Bool.and_eq_true] at h
   rcases List.mem_cons.1 ha with rfl|ha
   ·exact h.1
   ·exact ih h.2 ha
theorem aMA {n:Nat} {l:List Ty} (h:asw n l=true) {a:Ty} (ha:a∈l):nmT n a=true:=by
 induction l with
 | nil=>simp at ha
 | cons b l ih =>
   simp only[asw,Bool.and_eq_true] at h
   rcases List.mem_cons.1 ha with rfl|ha
   ·exact h.1
   ·exact ih h.2 ha
theorem atr {n:Nat} {l:List Ob} (h:ao1 n l=true) {o:Ob} (ho:o∈l):o.names.length≤n∧(∀ t∈o.fields,nmT n t=true)∧nmT n o.rest=true:=by
 induction l with
 | nil=>simp at ho
 | cons b l ih =>
   obtain⟨ns,fs,ms,r⟩:=b
   simp only[ao1,Bool.and_eq_true,decide_eq_true_eq] at h
   rcases List.mem_cons.1 ho with rfl|ho
   ·exact⟨h.1.1.1,fun t ht=>aMA h.1.1.2 ht,h.1.2⟩
   ·exact ih h.2 ho
theorem aqc {n:Nat} (t:Ty):nmT n t=(aoL n t.arrays&&ao1 n t.objects):=by cases t; rfl
theorem gY {a:Arr} (h:gu a=true):0≤a.min∧-1≤a.max∧(a.max<0∨a.min≤a.max)∧aj a.item=true∧(never a.item=true↔a.max=0):=by
 obtain⟨t,lo,hi⟩:=a
 simp only[gu,Bool.and_eq_true,Bool.or_eq_true,decide_eq_true_eq,beq_iff_eq] at h
 refine⟨h.1.1.1.1,h.1.1.1.2,h.1.1.2,h.1.2,?_⟩
 show never t=true↔hi=0
 rw[h.2,decide_eq_true_eq]
theorem dH {o:Ob} (h:bg o=true):o.names.length=o.fields.length∧o.names.length=o.must.length∧iQ o.names=true∧aj o.rest=true∧(∀ f∈o.fields,aj f=true)∧∀ p∈o.fields.zip o.must,p.2=true→never p.1=false:=by
 obtain⟨ns,fs,ms,r⟩:=o
 simp only[bg,Bool.and_eq_true,decide_eq_true_eq,VK,List.all_eq_true,Bool.or_eq_true,Bool.not_eq_true'] at h
 refine⟨h.1.1.1.1.1,h.1.1.1.1.2,h.1.1.1.2,h.1.1.2,h.1.2,fun p hp hm=>?_⟩
 rcases h.2 p hp with h|h
 ·rw[hm] at h; cases h
 ·exact h
theorem bN {t:Ty} (h:aj t=true):(t.all=true→bare t=true)∧iQ t.texts=true∧(t.any=true→t.texts=[])∧t.nums.length≤1∧(∀ s∈t.nums,jo s=true)∧t.arrays.length≤1∧(∀ a∈t.arrays,gu a=true)∧∀ o∈t.objects,bg o=true:=by
 obtain⟨a,b,c,d,ns,e,ts,as,os⟩:=t
 simp only[aj,Bool.and_eq_true,Bool.or_eq_true,Bool.not_eq_true',decide_eq_true_eq,WZ,XG,List.all_eq_true,List.isEmpty_iff] at h
 refine⟨fun ha=>?_,h.1.1.1.1.1.1.2,fun he=>?_,h.1.1.1.1.2,h.1.1.1.2,h.1.1.2,h.1.2,h.2⟩
 ·rcases h.1.1.1.1.1.1.1 with h|h
  ·exact absurd ha (by show ¬ a=true; rw[h]; simp)
  ·exact h
 ·rcases h.1.1.1.1.1.2 with h|h
  ·exact absurd he (by show ¬ e=true; rw[h]; simp)
  ·exact h
end Go.Tidy
namespace Go.Tidy
open Go
theorem aai {a:Arr} (h1:0≤a.min) (h2 : -1≤a.max) (h3:a.max<0∨a.min≤a.max) (h4:aj a.item=true) (h5:never a.item=true↔a.max=0):gu a=true:=by
 obtain⟨t,lo,hi⟩:=a
 simp only[Arr.min,Arr.max,Arr.item] at *
 simp only[gu,Bool.and_eq_true,Bool.or_eq_true,decide_eq_true_eq,beq_iff_eq]
 refine⟨⟨⟨⟨h1,h2⟩,h3⟩,h4⟩,?_⟩
 cases hn:never t
 ·have:¬ hi=0:=fun h=>by have:=h5.2 h; rw[hn] at this; cases this
  simp[this]
 ·simp[h5.1 hn]
theorem Rz {o:Ob} (h1:o.names.length=o.fields.length) (h2:o.names.length=o.must.length) (h3:iQ o.names=true) (h4:aj o.rest=true) (h5:∀ f∈o.fields,aj f=true) (h6:∀ p∈o.fields.zip o.must,p.2=true→never p.1=false):bg o=true:=by
 obtain⟨ns,fs,ms,r⟩:=o
 simp only[Ob.names,Ob.fields,Ob.must,Ob.rest] at *
 simp only[bg,Bool.and_eq_true,decide_eq_true_eq,VK,List.all_eq_true,Bool.or_eq_true,Bool.not_eq_true']
 refine⟨⟨⟨⟨⟨h1,h2⟩,h3⟩,h4⟩,h5⟩,fun p hp=>?_⟩
 cases hm:p.2
 ·exact .inl rfl
 ·exact .inr (h6 p hp hm)
theorem aad {t:Ty} (h1:t.all=true→bare t=true) (h2:iQ t.texts=true) (h3:t.any=true→t.texts=[]) (h4:t.nums.length≤1) (h5:∀ s∈t.nums,jo s=true) (h6:t.arrays.length≤1) (h7:∀ a∈t.arrays,gu a=true) (h8:∀ o∈t.objects,bg o=true):aj t=true:=by
 obtain⟨a,b,c,d,ns,e,ts,as,os⟩:=t
 simp only[Ty.all,Ty.texts,Ty.any,Ty.nums,Ty.arrays,Ty.objects] at *
 simp only[aj,Bool.and_eq_true,Bool.or_eq_true,Bool.not_eq_true',decide_eq_true_eq,WZ,XG,List.all_eq_true,List.isEmpty_iff]
 refine⟨⟨⟨⟨⟨⟨⟨?_,h2⟩,?_⟩,h4⟩,h5⟩,h6⟩,h7⟩,h8⟩
 ·cases a
  ·exact .inl rfl
  ·exact .inr (h1 rfl)
 ·cases e
  ·exact .inl rfl
  ·exact .inr (h3 rfl)
theorem XQ:aj dx=true:=by simp[dx,aj,iQ,bare,Xw,YG,Ty.null,Ty.fls,Ty.tru,Ty.any,Ty.nums,Ty.texts,Ty.arrays,Ty.objects]
theorem zL:aj aV=true:=by simp[aV,aj,iQ,bare,Xw,YG,Ty.null,Ty.fls,Ty.tru,Ty.any,Ty.nums,Ty.texts,Ty.arrays,Ty.objects]
theorem aME {t:Ty} (h:bare t=true):t=.mk t.all false false false [] false [] [] []:=by
 obtain⟨a,b,c,d,ns,e,ts,as,os⟩:=t
 simp only[bare,Ty.null,Ty.fls,Ty.tru,Ty.any,Ty.nums,Ty.texts,Ty.arrays,Ty.objects,Bool.and_eq_true,Bool.not_eq_true',List.isEmpty_iff] at h
 obtain⟨⟨⟨⟨⟨⟨⟨rfl,rfl⟩,rfl⟩,rfl⟩,rfl⟩,rfl⟩,rfl⟩,rfl⟩:=h
 rfl
theorem an8 {t:Ty} (h:aj t=true) (ha:t.all=true):t=dx:=by
 have:=aME ((bN h).1 ha)
 rw[this,ha]; rfl
theorem aE9 (l:List S):fQ l []=l:=by cases l<;>simp[fQ]
theorem aFe (l:List S):fQ [] l=l:=by simp[fQ]
theorem aJp (l:List Span):Av l []=l:=by cases l<;>rfl
theorem Uh (l:List Arr):jR l []=l:=by cases l<;>simp[jR]
theorem KU (l:List Arr):jR [] l=l:=by simp[jR]
theorem zX (x t:Ty):jf x t=if x.all||t.all then dx else .mk false (x.null||t.null) (x.fls||t.fls) (x.tru||t.tru) (Av x.nums t.nums) (x.any||t.any) (if x.any||t.any then [] else fQ x.texts t.texts) (jR x.arrays t.arrays) (x.objects++t.objects):=by
 cases x; simp only[jf]; rfl
theorem adO (a b:Arr):ae9 a b=.mk (jf a.item b.item) (if b.min<a.min then b.min else a.min) (if a.max<0∨b.max<0 then -1 else if b.max > a.max then b.max else a.max):=by
 cases a; simp only[ae9]; rfl
theorem auO {x:Ty} (h:aj x=true):jf aV x=x:=by
 rw[zX]
 cases ha:x.all
 ·obtain⟨a,b,c,d,ns,e,ts,as,os⟩:=x
  have h3:=(bN h).2.2.1
  simp only[Ty.all] at ha
  subst ha
  simp only[aV,Ty.all,Ty.null,Ty.fls,Ty.tru,Ty.nums,Ty.any,Ty.texts,Ty.arrays,Ty.objects,Bool.or_false,Bool.false_or,Bool.false_eq_true,if_false,Av,KU,List.nil_append,aFe] at *
  cases e
  ·rfl
  ·rw[h3 rfl]; rfl
 ·rw[an8 h ha]; rfl
theorem YJ {t:Ty}:never t=true↔t.all=false∧t.null=false∧t.fls=false∧t.tru=false∧t.any=false∧t.nums=[]∧t.texts=[]∧t.arrays=[]∧t.objects=[]:=by
 simp only[never,bare,Bool.and_eq_true,Bool.not_eq_true',List.isEmpty_iff,and_assoc]
theorem aMI {a b:List Span}:Av a b=[]↔a=[]∧b=[]:=by cases a<;>cases b<;>simp[Av]
theorem avJ {a b:List S}:fQ a b=[]↔a=[]∧b=[]:=by
 cases a<;>cases b<;>simp[fQ]
 repeat' split
 all_goals simp
theorem aLg {a b:List Arr}:jR a b=[]↔a=[]∧b=[]:=by cases a<;>cases b<;>simp[jR]
theorem atG (a b:Ty):never (jf a b)=(never a&&never b):=by
 rw[Bool.eq_iff_iff,Bool.and_eq_true,YJ,YJ,YJ,zX]
 cases h1:a.all<;>cases h2:b.all<;>simp[dx,Ty.all,aMI,aLg,Ty.null,Ty.fls,Ty.tru,Ty.nums,Ty.any,Ty.texts,Ty.arrays,Ty.objects]
 rw[← h1.symm.symm,← h2] at *
 constructor
 ·rintro⟨⟨e1,e2⟩,⟨e3,e4⟩,⟨e5,e6⟩,⟨e7,e8⟩,⟨e9,e10⟩,e11,⟨e12,e13⟩,e14,e15⟩
  rw[e7,e8] at e11
  have:=avJ.1 (e11 rfl rfl)
  exact⟨⟨e1,e3,e5,e7,e9,this.1,e12,e14⟩,e2,e4,e6,e8,e10,this.2,e13,e15⟩
 ·rintro⟨⟨e1,e3,e5,e7,e9,e,e12,e14⟩,e2,e4,e6,e8,e10,e',e13,e15⟩
  exact⟨⟨e1,e2⟩,⟨e3,e4⟩,⟨e5,e6⟩,⟨e7,e8⟩,⟨e9,e10⟩,fun _ _=>avJ.2 ⟨e,e'⟩,⟨e12,e13⟩,e14,e15⟩
theorem avL:fu ByteArray.empty=true:=by simp[fu,eU]
theorem aJC {a b:S} (ha:fu a=true) (hb:fu b=true):fu (aie a b)=true:=by
 unfold aie; split
 ·exact avL
 ·split
  ·exact ha
  ·exact hb
theorem aG3 {a b:S} (ha:fu a=true) (hb:fu b=true):fu (acy a b)=true:=by
 unfold acy; split
 ·exact avL
 ·split
  ·exact ha
  ·exact hb
theorem aev {s:Span}:jo s=true↔fu s.low=true∧fu s.high=true∧(eU s.low=false→eU s.high=false→(eu s.low s.high).isLE=true):=by
 simp only[jo,Bool.and_eq_true,Bool.or_eq_true,and_assoc]
 refine and_congr Iff.rfl (and_congr Iff.rfl ?_)
 cases eU s.low<;>cases eU s.high<;>simp
theorem isLE_swap {a b:S} (h:(eu a b).isLE=false):(eu b a).isLE=true:=by rw[ajJ]; revert h; cases eu a b<;>simp
theorem le_trans' {a b d:S} (h:(eu a b).isLE=true) (k:(eu b d).isLE=true):(eu a d).isLE=true:=(aGt a b d).1 h k
theorem aLN {a b:Span} (ha:jo a=true) (hb:jo b=true):jo ⟨aie a.low b.low,acy a.high b.high⟩=true:=by
 rw[aev] at *
 obtain⟨a1,a2,a3⟩:=ha
 obtain⟨b1,b2,b3⟩:=hb
 refine⟨aJC a1 b1,aG3 a2 b2,fun h1 h2=>?_⟩
 simp only[] at h1 h2 ⊢
 have e0:eU ByteArray.empty=true:=by simp[eU]
 cases p1:eU a.low<;>cases p2:eU b.low<;>simp[aie,p1,p2,e0] at h1
 cases p3:eU a.high<;>cases p4:eU b.high<;>simp[acy,p3,p4,e0] at h2
 have ka:=a3 p1 p3
 have kb:=b3 p2 p4
 simp only[aie,acy,p1,p2,p3,p4,Bool.or_self,Bool.false_eq_true,if_false]
 cases c1:(eu a.low b.low).isLE<;>cases c2:(eu a.high b.high).isGE<;>simp only[if_true,if_false,Bool.false_eq_true]
 ·exact kb
 ·exact le_trans' (isLE_swap c1) ka
 ·exact le_trans' c1 kb
 ·exact ka
theorem ar5 {a b:List Span} (ha:∀ s∈a,jo s=true) (hb:∀ s∈b,jo s=true):∀ s∈Av a b,jo s=true:=by
 intro s hs
 match a,b with
 | [],b=>exact hb s hs
 | x::a,[]=>exact ha s hs
 | x::a,y::b =>
   simp only[Av,List.mem_singleton] at hs
   subst hs
   exact aLN (ha x (by simp)) (hb y (by simp))
theorem aFa {a b:List Span} (ha:a.length≤1) (hb:b.length≤1):(Av a b).length≤1:=by
 match a,b with
 | [],b=>exact hb
 | x::a,[]=>exact ha
 | x::a,y::b=>simp[Av]
mutual
theorem ZM:∀ a b:Ty,aj a=true→aj b=true→aj (jf a b)=true
 | .mk a1 a2 a3 a4 a5 a6 a7 a8 a9,b,ha,hb=>by
   rw[zX]
   have hA:=bN ha
   have hB:=bN hb
   split
   ·exact XQ
   ·refine aad (fun h=>by simp[Ty.all] at h) ?_ (fun h=>?_) (aFa hA.2.2.2.1 hB.2.2.2.1) (ar5 hA.2.2.2.2.1 hB.2.2.2.2.1) ?_ (fun x hx=>?_) (fun o ho=>?_)
    ·simp only[Ty.rz]
     split
     ·rfl
     ·exact aFU hA.2.1 hB.2.1
    ·exact if_pos h
    ·exact azX a8 b.arrays hA.2.2.2.2.2.1 hB.2.2.2.2.2.1
    ·exact apu a8 b.arrays hA.2.2.2.2.2.2.1 hB.2.2.2.2.2.2.1 x hx
    ·simp only[Ty.pQ,List.mem_append] at ho
     rcases ho with ho|ho
     ·exact hA.2.2.2.2.2.2.2 o ho
     ·exact hB.2.2.2.2.2.2.2 o ho
theorem azX:∀ a b:List Arr,a.length≤1→b.length≤1→(jR a b).length≤1
 | [],b,_,hb=>by simpa[jR] using hb
 | x::a,[],ha,_=>by simpa[jR] using ha
 | x::a,y::b,_,_=>by simp[jR]
theorem apu:∀ a b:List Arr,(∀ x∈a,gu x=true)→(∀ x∈b,gu x=true)→∀ x∈jR a b,gu x=true
 | [],b,_,hb=>by simpa[jR] using hb
 | x::a,[],ha,_=>by simpa[jR] using ha
 | .mk t lo hi::a,y::b,ha,hb=>by
   intro z hz
   simp only[jR,List.mem_singleton] at hz
   subst hz
   obtain⟨x1,x2,x3,x4,x5⟩:=gY (ha (.mk t lo hi) (by simp))
   obtain⟨y1,y2,y3,y4,y5⟩:=gY (hb y (by simp))
   simp only[Arr.aFA,Arr.auv,Arr.Ze] at x1 x2 x3 x4 x5
   have e:ae9 (.mk t lo hi) y=.mk (jf t y.item) (if y.min<lo then y.min else lo) (if hi<0∨y.max<0 then -1 else if y.max > hi then y.max else hi):=adO _ _
   rw[e]
   refine aai ?_ ?_ ?_ (ZM t _ x4 y4) ?_
   ·simp only[Arr.aFA]; split<;>assumption
   ·simp only[Arr.auv]; repeat' split
    all_goals omega
   ·simp only[Arr.aFA,Arr.auv]; repeat' split
    all_goals omega
   ·simp only[Arr.auv,Arr.Ze]
    rw[atG,Bool.and_eq_true,x5,y5]
    constructor
    ·rintro⟨h1,h2⟩
     rw[if_neg (by omega),if_neg (by omega)]; exact h1
    ·intro h
     repeat' split at h
     all_goals omega
end
theorem ar4 (l:List Ty) (h:∀ t∈l,aj t=true):∀ acc,aj acc=true→aj (l.foldl jf acc)=true:=by
 induction l with
 | nil=>intro acc ha; exact ha
 | cons t l ih=>intro acc ha; exact ih (fun x hx=>h x (by simp[hx])) _ (ZM acc t ha (h t (by simp)))
theorem Uo {l:List Ty} (h:∀ t∈l,aj t=true):aj (qb l)=true:=ar4 l h _ zL
theorem aJy (l:List Ty):∀ acc,never (l.foldl jf acc)=(never acc&&l.all never):=by
 induction l with
 | nil=>intro acc; simp
 | cons t l ih=>intro acc; rw[List.foldl_cons,ih,atG,List.all_cons,Bool.and_assoc]
theorem aJH (l:List Ty):never (qb l)=l.all never:=by
 rw[qb,aJy]
 have:never aV=true:=by simp[never,bare,aV,Ty.all,Ty.null,Ty.fls,Ty.tru,Ty.nums,Ty.any,Ty.texts,Ty.arrays,Ty.objects]
 rw[this,Bool.true_and]
theorem aF9 {x y:Ty} (h:aj x=true):qb [x,y]=jf x y:=by show jf (jf aV x) y=_; rw[auO h]
theorem av4 {l m:List S} (h:∀ y,y∈l↔y∈m):GU lq l=GU lq m:=als (Qh l).1 fun y=>((Qh l).2 y).trans (h y)
def Jq (l:List Ty):Ty :=
 if l.any Ty.all then dx else
 .mk false (l.any Ty.null) (l.any Ty.fls) (l.any Ty.tru) (l.foldl (fun a t=>Av a t.nums) []) (l.any Ty.any) (if l.any Ty.any then [] else GU lq (l.flatMap Ty.texts)) (l.foldl (fun a t=>jR a t.arrays) []) (l.flatMap Ty.objects)
theorem aJI (l:List Ty):l.foldl jf dx=dx:=by
 induction l with
 | nil=>rfl
 | cons t l ih =>
   rw[List.foldl_cons]
   have:jf dx t=dx:=by rw[zX]; simp[dx]
   rw[this,ih]
theorem aKi (l:List Ty) (h:∀ t∈l,aj t=true):∀ acc:Ty,aj acc=true→acc.all=false →
 l.foldl jf acc=if l.any Ty.all then dx else .mk false (acc.null||l.any Ty.null) (acc.fls||l.any Ty.fls) (acc.tru||l.any Ty.tru) (l.foldl (fun a t=>Av a t.nums) acc.nums) (acc.any||l.any Ty.any)
  (if acc.any||l.any Ty.any then [] else GU lq (acc.texts++l.flatMap Ty.texts)) (l.foldl (fun a t=>jR a t.arrays) acc.arrays) (acc.objects++l.flatMap Ty.objects):=by
 induction l with
 | nil =>
   intro acc ha h0
   have hA:=bN ha
   obtain⟨a,b,c,d,ns,e,ts,as,os⟩:=acc
   simp only[Ty.all_mk] at h0
   subst h0
   simp only[List.foldl_nil,List.any_nil,Bool.or_false,Bool.false_eq_true,if_false,List.flatMap_nil,List.append_nil,Ty.agU,Ty.akz,Ty.ak5,Ty.aa3,Ty.any_mk,Ty.rz,Ty.qP,Ty.pQ]
   congr 1
   cases e
   ·exact als (JV hA.2.1).1 fun _=>Iff.rfl
   ·exact hA.2.2.1 rfl
 | cons t l ih =>
   intro acc ha h0
   have ht:=h t (by simp)
   have hT:=bN ht
   have hA:=bN ha
   rw[List.foldl_cons]
   cases h1:t.all
   ·have e0:jf acc t=.mk false (acc.null||t.null) (acc.fls||t.fls) (acc.tru||t.tru) (Av acc.nums t.nums) (acc.any||t.any) (if acc.any||t.any then [] else fQ acc.texts t.texts) (jR acc.arrays t.arrays) (acc.objects++t.objects):=by
       rw[zX,h0,h1]; rfl
    rw[ih (fun x hx=>h x (by simp[hx])) (jf acc t) (ZM acc t ha ht) (by rw[e0]; rfl)]
    rw[List.any_cons,h1,Bool.false_or]
    split
    ·rfl
    ·rw[e0]
     simp only[List.any_cons,List.foldl_cons,List.flatMap_cons,Ty.agU,Ty.akz,Ty.ak5,Ty.aa3,Ty.any_mk,Ty.rz,Ty.qP,Ty.pQ,Bool.or_assoc,List.append_assoc]
     congr 1
     cases e1:acc.any<;>cases e2:t.any<;>cases e3:l.any Ty.any<;>simp
     refine av4 fun y=>?_
     simp[zh,or_assoc]
   ·have e0:jf acc t=dx:=by rw[zX,h1]; simp
    rw[e0,aJI,List.any_cons,h1]
    simp
theorem arB (l:List Ty) (h:∀ t∈l,aj t=true):Jq l=qb l:=by
 rw[qb,aKi l h aV zL rfl]
 unfold Jq
 simp[aV]
end Go.Tidy
namespace Go.Tidy
open Go
mutual
theorem aql:∀ t:Ty,aj t=true→ahK t
 | .mk a b c d ns e ts as os,h=>by
   have hs:=bN h
   exact⟨aDQ as hs.2.2.2.2.2.2.1,aF7 os hs.2.2.2.2.2.2.2⟩
theorem aDQ:∀ l:List Arr,(∀ a∈l,gu a=true)→ak1 l
 | [],_=>trivial
 | .mk t lo hi::l,h=>by
   obtain⟨-,h2,-,h4,-⟩:=gY (h (.mk t lo hi) (by simp))
   exact⟨⟨h2,aql t h4⟩,aDQ l fun a ha=>h a (by simp[ha])⟩
theorem aF7:∀ l:List Ob,(∀ a∈l,bg a=true)→aj7 l
 | [],_=>trivial
 | .mk ns fs ms r::l,h=>by
   obtain⟨-,-,-,h4,h5,-⟩:=dH (h (.mk ns fs ms r) (by simp))
   exact⟨⟨asR fs h5,aql r h4⟩,aF7 l fun a ha=>h a (by simp[ha])⟩
theorem asR:∀ l:List Ty,(∀ a∈l,aj a=true)→agV l
 | [],_=>trivial
 | t::l,h=>⟨aql t (h t (by simp)),asR l fun a ha=>h a (by simp[ha])⟩
end
theorem ayd {o:Ob} (h:bg o=true):aic o:=by
 obtain⟨-,-,-,h4,h5,-⟩:=dH h
 exact⟨asR _ h5,aql _ h4⟩
theorem vG {o:Ob} (h:bg o=true):aj (jk o)=true :=
 aad (by simp[jk]) (by simp[jk,iQ]) (by simp[jk]) (by simp[jk]) (by simp[jk]) (by simp[jk]) (by simp[jk]) (by simpa[jk] using h)
theorem aac {o:Ob} (h:bg o=true) (n:S):aj (bn o n).1=true∧((bn o n).2=true→never (bn o n).1=false):=by
 obtain⟨-,-,-,h4,h5,h6⟩:=dH h
 unfold bn
 split
 ·rename_i p hp
  have hm:=List.mem_of_find?_eq_some hp
  obtain⟨a,b,c⟩:=p
  have h2:=(List.of_mem_zip hm).2
  exact⟨h5 _ (List.of_mem_zip h2).1,fun hc=>h6 (b,c) h2 hc⟩
 ·exact⟨h4,fun h=>by cases h⟩
theorem aJ5 (l:List Ob) (h:∀ o∈l,SSs o.names):∀ acc,SSs acc→l.foldl (fun acc o=>fQ acc o.names) acc=GU lq (acc++l.flatMap Ob.names):=by
 induction l with
 | nil=>intro acc ha; simpa using als ha fun _=>Iff.rfl
 | cons o l ih =>
   intro acc ha
   rw[List.foldl_cons,ih (fun x hx=>h x (by simp[hx])) _ (ae2 acc o.names ha (h o (by simp)))]
   refine av4 fun y=>?_
   simp[zh,or_assoc]
theorem apX {l:List Ob} (h:∀ o∈l,SSs o.names):um l=GU lq (l.flatMap Ob.names):=by
 rw[um,aJ5 l h [] (by simp[SS])]; rfl
theorem oq {o:Ob} (h:bg o=true):SSs o.names:=(JV (dH h).2.2.1).1
theorem aHg {l:List Ob} (h:∀ o∈l,bg o=true):iQ (um l)=true:=by
 rw[apX fun o ho=>oq (h o ho)]
 refine alO (Qh _).1 fun s hs=>?_
 have:=((Qh _).2 s).1 hs
 obtain⟨o,ho,hs⟩:=List.mem_flatMap.1 this
 exact (JV (dH (h o ho)).2.2.1).2 s hs
theorem aI6 {l:List Ob} (h:∀ o∈l,bg o=true) {s:S}:s∈um l↔∃ o∈l,s∈o.names:=by
 rw[apX fun o ho=>oq (h o ho),(Qh _).2 s,List.mem_flatMap]
theorem aEF {α β γ:Type} (f:α→β) (g:α→γ) (l:List α):(l.map f).zip (l.map g)=l.map fun x=>(f x,g x):=by
 induction l with
 | nil=>rfl
 | cons a l ih=>simp[ih]
theorem aej {l:List Ob} (h:∀ o∈l,bg o=true) (h0:l≠[]):bg (yj l)=true:=by
 unfold yj
 refine Rz (by simp) (by simp) (by simpa using aHg h) (show aj (qb (l.map Ob.rest))=true from Uo fun t ht=>?_) (fun f hf=>?_) (fun p hp hm=>?_)
 ·obtain⟨o,ho,rfl⟩:=List.mem_map.1 ht
  exact (dH (h o ho)).2.2.2.1
 ·simp only[Ob.uy,List.mem_map] at hf
  obtain⟨n,_,rfl⟩:=hf
  refine Uo fun t ht=>?_
  obtain⟨o,ho,rfl⟩:=List.mem_map.1 ht
  exact (aac (h o ho) n).1
 ·simp only[Ob.uy,Ob.aaR,aEF,List.mem_map] at hp
  obtain⟨n,_,rfl⟩:=hp
  simp only[List.all_eq_true] at hm
  rw[aJH]
  obtain⟨o,l',rfl⟩:=List.exists_cons_of_ne_nil h0
  rw[List.map_cons,List.all_cons,(aac (h o (by simp)) n).2 (hm o (by simp)),Bool.false_and]
theorem aIY {α:Type} {f:α→α→Ordering} {l m:List α} (h:l.Sublist m) (k:SS f m):SS f l:=List.Pairwise.sublist h k
theorem aKL {l m:List S} (h:l.Sublist m) (k:iQ m=true):iQ l=true:=by
 obtain⟨k1,k2⟩:=JV k
 exact alO (aIY h k1) fun s hs=>k2 s (h.subset hs)
def jD (o:Ob):List (S × Ty × Bool):=o.names.zip (o.fields.zip o.must)
def zF (l:List (S × Ty × Bool)) (r:Ty):Ob:=.mk (l.map (·.1)) (l.map (·.2.1)) (l.map (·.2.2)) r
theorem agC {o:Ob} (h1:o.names.length=o.fields.length) (h2:o.names.length=o.must.length):(jD o).map (·.1)=o.names∧(jD o).map (·.2.1)=o.fields∧(jD o).map (·.2.2)=o.must:=by
 have e:(o.fields.zip o.must).length=o.names.length:=by simp; omega
 have a1:(jD o).map (·.1)=o.names:=by unfold jD; rw[List.map_fst_zip (by omega)]
 have a2:(jD o).map (·.2)=o.fields.zip o.must:=by unfold jD; rw[List.map_snd_zip (by omega)]
 refine⟨a1,?_,?_⟩
 ·have:(jD o).map (·.2.1)=((jD o).map (·.2)).map (·.1):=by simp
  rw[this,a2,List.map_fst_zip (by omega)]
 ·have:(jD o).map (·.2.2)=((jD o).map (·.2)).map (·.2):=by simp
  rw[this,a2,List.map_snd_zip (by omega)]
theorem aeh {o:Ob} (h:bg o=true) {l:List (S × Ty × Bool)} (hl:l.Sublist (jD o)) {r:Ty} (hr:aj r=true):bg (zF l r)=true:=by
 obtain⟨h1,h2,h3,h4,h5,h6⟩:=dH h
 obtain⟨t1,t2,t3⟩:=agC h1 h2
 unfold zF
 refine Rz (by simp) (by simp) ?_ (by simpa using hr) (fun f hf=>?_) (fun p hp hm=>?_)
 ·have:(l.map (·.1)).Sublist ((jD o).map (·.1)):=hl.map _
  rw[t1] at this
  exact aKL this h3
 ·have:(l.map (·.2.1)).Sublist ((jD o).map (·.2.1)):=hl.map _
  rw[t2] at this
  exact h5 f (this.subset (by simpa using hf))
 ·simp only[Ob.uy,Ob.aaR,aEF,List.mem_map] at hp
  obtain⟨x,hx,rfl⟩:=hp
  have:=hl.subset hx
  unfold jD at this
  obtain⟨a,b,c⟩:=x
  exact h6 (b,c) (List.of_mem_zip this).2 hm
theorem aKf (o:Ob):jr o=zF ((jD o).filter fun p=>p.2.2||!jV p.2.1 o.rest) o.rest:=rfl
theorem aal {o:Ob} (h:bg o=true):bg (jr o)=true:=by
 rw[aKf]; exact aeh h List.filter_sublist (dH h).2.2.2.1
theorem aEk {N:Ty→Ty} (hN:∀ t,aj t=true→aj (N t)=true) {o:Ob} (h:bg o=true):bg (FQ N o)=true:=by
 unfold FQ
 have hs:=aal h
 generalize jr o=p at *
 simp only
 split
 ·exact hs
 ·obtain⟨h1,h2,h3,h4,h5,h6⟩:=dH hs
  refine aal ?_
  have:∀ r,Ob.mk (p.names.take 12) (p.fields.take 12) (p.must.take 12) r=zF ((jD p).take 12) r:=fun r=>by
   obtain⟨t1,t2,t3⟩:=agC h1 h2
   unfold zF
   rw[List.map_take,List.map_take,List.map_take,t1,t2,t3]
  rw[this]
  refine aeh hs (List.take_sublist _ _) (hN _ (Uo fun t ht=>?_))
  rcases List.mem_cons.1 ht with rfl|ht
  ·exact h4
  ·exact h5 t (List.mem_of_mem_drop ht)
theorem Dn {N:Ty→Ty} (hN:∀ t,aj t=true→aj (N t)=true) (hv:∀ t,aj t=true→never (N t)=never t) {o:Ob} (h:bg o=true):bg (gq N o)=true:=by
 obtain⟨h1,h2,h3,h4,h5,h6⟩:=dH h
 refine aEk hN (Rz (by simp[h1]) h2 h3 (hN _ h4) (fun f hf=>?_) (fun p hp hm=>?_))
 ·obtain⟨t,ht,rfl⟩:=List.mem_map.1 hf
  exact hN t (h5 t ht)
 ·simp only[Ob.uy,Ob.aaR] at hp
  have:(o.fields.map N).zip o.must=(o.fields.zip o.must).map fun p=>(N p.1,p.2):=by
   rw[← List.map_id o.must,List.zip_map]; simp
  rw[this] at hp
  obtain⟨x,hx,rfl⟩:=List.mem_map.1 hp
  rw[hv _ (h5 _ (List.of_mem_zip hx).1)]
  exact h6 x hx hm
theorem aEB {l:List Ob} (h:∀ o∈l,bg o=true) {o:Ob}:o∈iY l↔o∈l:=by
 rw[axu]
 exact (apB (D:=aic) aiF awf (fun _ _=>aIu) l (fun x hx=>ayd (h x hx))).2 o
theorem zi:∀ (l kept:List Ob),∀ o∈dN kept l,o∈kept∨o∈l
 | [],kept,o,h=>.inl (by simpa[dN] using h)
 | x::l,kept,o,h=>by
   simp only[dN] at h
   split at h
   ·exact (zi l kept o h).imp id (by simp +contextual)
   ·rcases zi l _ o h with h|h
    ·rcases List.mem_append.1 h with h|h
     ·exact .inl h
     ·exact .inr (by simp at h; simp[h])
    ·exact .inr (by simp[h])
theorem aa8 {N:Ty→Ty} (hN:∀ t,aj t=true→aj (N t)=true) (hv:∀ t,aj t=true→never (N t)=never t) {l:List Ob} (h:∀ o∈l,bg o=true):∀ o∈nG N l,bg o=true:=by
 have hr:∀ o∈dN [] (iY l),bg o=true:=fun o ho=>by
  rcases zi _ _ o ho with h'|h'
  ·cases h'
  ·exact h o ((aEB h).1 h')
 unfold nG
 generalize dN [] (iY l)=row at *
 simp only
 split
 ·exact hr
 ·rename_i hlen
  have hnew:bg (gq N (yj (row.drop 3)))=true:=Dn hN hv (aej (fun o ho=>hr o (List.mem_of_mem_drop ho)) (fun e=>by have:=congrArg List.length e; simp at this; omega))
  have hall:∀ o∈row.take 3++[gq N (yj (row.drop 3))],bg o=true:=fun o ho=>by
   rcases List.mem_append.1 ho with ho|ho
   ·exact hr o (List.mem_of_mem_take ho)
   ·simp at ho; subst ho; exact hnew
  intro o ho
  rcases zi _ _ o ho with h'|h'
  ·cases h'
  ·exact hall o ((aEB hall).1 h')
end Go.Tidy
namespace Go.Tidy
open Go
def hle (n:Nat) (o:Ob):Prop:=aK o.rest≤n∧∀ f∈o.fields,aK f≤n
theorem ai7 {n:Nat}:∀ {l:List Arr},jv l≤n+1↔∀ a∈l,aK a.item≤n
 | []=>by simp[jv]
 | .mk t lo hi::l=>by
   simp only[jv,List.mem_cons,forall_eq_or_imp,Arr.Ze]
   rw[Nat.max_le,ai7 (l:=l)]
   exact and_congr (by omega) Iff.rfl
theorem ais {n:Nat}:∀ {l:List Ty},mh l≤n+1↔∀ a∈l,aK a≤n
 | []=>by simp[mh]
 | t::l=>by
   simp only[mh,List.mem_cons,forall_eq_or_imp]
   rw[Nat.max_le,ais (l:=l)]
   exact and_congr (by omega) Iff.rfl
theorem aiJ {n:Nat}:∀ {l:List Ob},jy l≤n+1↔∀ o∈l,hle n o
 | []=>by simp[jy]
 | .mk ns fs ms r::l=>by
   simp only[jy,List.mem_cons,forall_eq_or_imp,hle,Ob.agX,Ob.uy]
   rw[Nat.max_le,Nat.max_le,aiJ (l:=l),ais]
   exact and_congr (and_congr (by omega) Iff.rfl) Iff.rfl
theorem avv (t:Ty):aK t=max (jv t.arrays) (jy t.objects):=by cases t; rfl
theorem uh {t:Ty} {n:Nat}:aK t≤n+1↔(∀ a∈t.arrays,aK a.item≤n)∧∀ o∈t.objects,hle n o:=by
 rw[avv,Nat.max_le,ai7,aiJ]
theorem sW {t:Ty}:aK t≤0↔t.arrays=[]∧t.objects=[]:=by
 rw[avv]
 constructor
 ·intro h
  refine⟨?_,?_⟩
  ·cases ha:t.arrays with
   | nil=>rfl
   | cons a l=>obtain⟨x,lo,hi⟩:=a; rw[ha] at h; simp only[jv] at h; omega
  ·cases ha:t.objects with
   | nil=>rfl
   | cons a l=>obtain⟨ns,fs,ms,r⟩:=a; rw[ha] at h; simp only[jy] at h; omega
 ·rintro⟨h1,h2⟩; rw[h1,h2]; simp[jv,jy]
theorem MG (n:Nat):aK dx≤n:=by simp[dx,aK,jv,jy]
theorem aD8 (n:Nat):aK aV≤n:=by simp[aV,aK,jv,jy]
theorem ard:∀ (n:Nat) (a b:Ty),aK a≤n→aK b≤n→aK (jf a b)≤n:=by
 intro n
 induction n with
 | zero =>
   intro a b ha hb
   rw[sW] at *
   rw[zX]
   split
   ·exact⟨rfl,rfl⟩
   ·simp[ha,hb,jR]
 | succ n ih =>
   intro a b ha hb
   rw[zX]
   split
   ·exact MG _
   ·rw[uh] at *
    simp only[Ty.qP,Ty.pQ]
    refine⟨fun x hx=>?_,fun o ho=>(List.mem_append.1 ho).elim (ha.2 o) (hb.2 o)⟩
    cases h1:a.arrays with
    | nil=>rw[h1,KU] at hx; exact hb.1 x hx
    | cons y l =>
      cases h2:b.arrays with
      | nil=>rw[h1,h2,Uh] at hx; exact ha.1 x (by rw[h1]; exact hx)
      | cons z m =>
        rw[h1,h2] at hx
        simp only[jR,List.mem_singleton] at hx
        subst hx
        rw[adO]
        exact ih _ _ (ha.1 y (by rw[h1]; simp)) (hb.1 z (by rw[h2]; simp))
theorem arx {n:Nat}:∀ (l:List Ty) (acc:Ty),(∀ t∈l,aK t≤n)→aK acc≤n→aK (l.foldl jf acc)≤n
 | [],acc,_,h=>h
 | t::l,acc,hl,h=>arx l _ (fun x hx=>hl x (by simp[hx])) (ard n _ _ h (hl t (by simp)))
theorem aeb {n:Nat} {l:List Ty} (h:∀ t∈l,aK t≤n):aK (qb l)≤n:=arx l _ h (aD8 n)
theorem aoI (o:Ob) (n:S):(bn o n).1∈o.fields∨(bn o n).1=o.rest:=by
 unfold bn
 split
 ·rename_i p hp
  have hm:=List.mem_of_find?_eq_some hp
  obtain⟨a,b,c⟩:=p
  exact .inl (List.of_mem_zip (List.of_mem_zip hm).2).1
 ·exact .inr rfl
theorem aLa {n:Nat} {o:Ob} (h:hle n o) (s:S):aK (bn o s).1≤n:=by
 rcases aoI o s with k|k
 ·exact h.2 _ k
 ·rw[k]; exact h.1
theorem aEU {n:Nat} {l:List Ob} (h:∀ o∈l,hle n o):hle n (yj l):=by
 refine⟨aeb fun t ht=>?_,fun f hf=>?_⟩
 ·obtain⟨o,ho,rfl⟩:=List.mem_map.1 ht
  exact (h o ho).1
 ·simp only[yj,Ob.uy,List.mem_map] at hf
  obtain⟨s,_,rfl⟩:=hf
  refine aeb fun t ht=>?_
  obtain⟨o,ho,rfl⟩:=List.mem_map.1 ht
  exact aLa (h o ho) s
theorem amV (o:Ob):∀ f∈(jr o).fields,f∈o.fields:=fun f hf=>by
 simp only[jr,Ob.uy,List.mem_map,List.mem_filter] at hf
 obtain⟨⟨a,b,c⟩,⟨hm,_⟩,rfl⟩:=hf
 exact (List.of_mem_zip (List.of_mem_zip hm).2).1
theorem aDp (o:Ob):∀ f∈(jr o).names,f∈o.names:=fun f hf=>by
 simp only[jr,Ob.ahZ,List.mem_map,List.mem_filter] at hf
 obtain⟨⟨a,b,c⟩,⟨hm,_⟩,rfl⟩:=hf
 exact (List.of_mem_zip hm).1
theorem alJ {n:Nat} {o:Ob} (h:hle n o):hle n (jr o):=⟨h.1,fun f hf=>h.2 f (amV o f hf)⟩
theorem aLv {n:Nat} {N:Ty→Ty} (hN:∀ t,aK t≤n→aK (N t)≤n) {o:Ob} (h:hle n o):hle n (FQ N o):=by
 unfold FQ
 have hs:=alJ h
 generalize jr o=p at *
 simp only
 split
 ·exact hs
 ·refine alJ ⟨hN _ (aeb fun t ht=>?_),fun f hf=>hs.2 f (List.mem_of_mem_take hf)⟩
  rcases List.mem_cons.1 ht with rfl|ht
  ·exact hs.1
  ·exact hs.2 t (List.mem_of_mem_drop ht)
theorem ajP {n:Nat} {N:Ty→Ty} (hN:∀ t,aK t≤n→aK (N t)≤n) {o:Ob} (h:aK (N o.rest)≤n∧∀ f∈o.fields,aK (N f)≤n):hle n (gq N o) :=
 aLv hN ⟨h.1,fun f hf=>by
  obtain⟨t,ht,rfl⟩:=List.mem_map.1 hf
  exact h.2 t ht⟩
theorem aGc {α:Type} {f:α→α→Ordering} {o:α}:∀ {l:List α} {y:α},y∈Aj f o l→y=o∨y∈l
 | [],y,h=>.inl (by simpa[Aj] using h)
 | x::l,y,h=>by
   simp only[Aj] at h
   split at h
   ·simpa using h
   ·exact .inr h
   ·rcases List.mem_cons.1 h with h|h
    ·exact .inr (by simp[h])
    ·exact (aGc h).imp id (by simp +contextual)
theorem atl {α:Type} {f:α→α→Ordering} {o:α}:∀ {l:List α},(Aj f o l).length≤l.length+1∧0<(Aj f o l).length
 | []=>by simp[Aj]
 | x::l=>by
   simp only[Aj]
   split
   ·simp
   ·simp
   ·have:=(atl (f:=f) (o:=o) (l:=l)).1
    simp; exact this
theorem aNe {α:Type} {f:α→α→Ordering} (l:List α):(∀ y∈GU f l,y∈l)∧(GU f l).length≤l.length∧(l≠[]→GU f l≠[]):=by
 have key:∀ (l acc:List α),(∀ y∈l.foldl (fun acc o=>Aj f o acc) acc,y∈acc∨y∈l)∧(l.foldl (fun acc o=>Aj f o acc) acc).length≤acc.length+l.length∧(0<acc.length→0<(l.foldl (fun acc o=>Aj f o acc) acc).length):=by
  intro l
  induction l with
  | nil=>intro acc; simp
  | cons o l ih =>
    intro acc
    obtain⟨h1,h2,h3⟩:=ih (Aj f o acc)
    have hl:=atl (f:=f) (o:=o) (l:=acc)
    refine⟨fun y hy=>?_,?_,fun _=>h3 hl.2⟩
    ·rcases h1 y hy with h|h
     ·exact (aGc h).elim (fun e=>.inr (by simp[e])) .inl
     ·exact .inr (by simp[h])
    ·simp only[List.foldl_cons,List.length_cons]; omega
 obtain⟨h1,h2,h3⟩:=key l []
 refine⟨fun y hy=>(h1 y hy).elim (fun h=>by cases h) id,by simpa[GU] using h2,fun hl he=>?_⟩
 cases l with
 | nil=>exact hl rfl
 | cons o l =>
   have:=(key l (Aj f o [])).2.2 (atl).2
   simp only[GU,List.foldl_cons] at he
   rw[he] at this
   simp at this
theorem uq (l:List Ob):(∀ o∈iY l,o∈l)∧(iY l).length≤l.length∧(l≠[]→iY l≠[]):=by rw[axu]; exact aNe l
theorem JC:∀ (l kept:List Ob),(dN kept l).length≤kept.length+l.length∧(kept≠[]∨l≠[]→dN kept l≠[])
 | [],kept=>by simp[dN]
 | x::l,kept=>by
   simp only[dN]
   split
   ·rename_i h
    have ih:=JC l kept
    refine⟨by have:=ih.1; simp; omega,fun _=>ih.2 ?_⟩
    rcases Bool.or_eq_true_iff.1 h with h|h
    ·exact .inl fun e=>by rw[e] at h; simp at h
    ·exact .inr fun e=>by rw[e] at h; simp at h
   ·have ih:=JC l (kept++[x])
    exact⟨by have:=ih.1; simp at this ⊢; omega,fun _=>ih.2 (.inl (by simp))⟩
theorem apG {N:Ty→Ty} {l:List Ob} {o:Ob} (h:o∈nG N l):o∈l∨∃ m:List Ob,(∀ x∈m,x∈l)∧m≠[]∧o=gq N (yj m):=by
 have hr:∀ x∈dN [] (iY l),x∈l:=fun x hx=>(zi _ _ x hx).elim (fun h=>by cases h) ((uq l).1 x)
 unfold nG at h
 generalize dN [] (iY l)=row at *
 simp only at h
 split at h
 ·exact .inl (hr o h)
 ·rename_i hlen
  rcases zi _ _ o h with h'|h'
  ·cases h'
  ·have:=(uq _).1 o h'
   rcases List.mem_append.1 this with h2|h2
   ·exact .inl (hr o (List.mem_of_mem_take h2))
   ·simp only[List.mem_singleton] at h2
    exact .inr ⟨row.drop 3,fun x hx=>hr x (List.mem_of_mem_drop hx),fun e=>by have:=congrArg List.length e; simp at this; omega,h2⟩
theorem abK (N:Ty→Ty) (l:List Ob):(nG N l).length≤4∧(nG N l=[]↔l=[]):=by
 unfold nG
 have h1:=JC (iY l) []
 have h2:=uq l
 have h0:l=[]→dN [] (iY l)=[]:=fun e=>by subst e; rfl
 generalize dN [] (iY l)=row at *
 simp only
 split
 ·rename_i hlen
  refine⟨hlen,fun e=>?_,h0⟩
  cases hl:l with
  | nil=>rfl
  | cons x m=>exact absurd e (h1.2 (.inr (h2.2.2 (by rw[hl]; simp))))
 ·rename_i hlen
  have h3:=JC (iY (row.take 3++[gq N (yj (row.drop 3))])) []
  have h4:=uq (row.take 3++[gq N (yj (row.drop 3))])
  refine⟨?_,fun e=>?_,fun e=>?_⟩
  ·have a:=h3.1
   have b:=h4.2.1
   simp at a b
   omega
  ·exact absurd e (h3.2 (.inr (h4.2.2 (by simp))))
  ·rw[h0 e] at hlen; simp at hlen
theorem abH (t:Ty) (as:List Arr) (os:List Ob):ZH t as os=dx∨ZH t as os=.mk false t.null t.fls t.tru t.nums (t.any||decide (16<t.texts.length)) (if 16<t.texts.length then [] else t.texts) as os:=by
 have key:∀ x:Ty,(if jV x laidAll then dx else x)=dx∨(if jV x laidAll then dx else x)=x:=fun x=>by
  split
  ·exact .inl rfl
  ·exact .inr rfl
 exact key _
theorem DZ (t:Ty):bG 0 t=if t.all||!t.arrays.isEmpty||!t.objects.isEmpty then dx else ZH t [] []:=rfl
theorem vO (h:Nat) (t:Ty):bG (h+1) t=if t.all then dx else ZH t (t.arrays.map fun a=>.mk (bG h a.item) a.min a.max) (nG (bG h) (t.objects.map (gq (bG h)))):=rfl
theorem aJF {t:Ty} {as:List Arr} {os:List Ob} {n:Nat} (h1:∀ a∈as,aK a.item≤n) (h2:∀ o∈os,hle n o):aK (ZH t as os)≤n+1:=by
 rcases abH t as os with e|e
 ·rw[e]; exact MG _
 ·rw[e,uh]; exact⟨h1,h2⟩
theorem adn:∀ (h:Nat) (t:Ty) (n:Nat),aK t≤n∨h≤n→aK (bG h t)≤n:=by
 intro h
 induction h with
 | zero =>
   intro t n _
   rw[DZ]
   split
   ·exact MG n
   ·rcases abH t [] [] with e|e<;>rw[e]
    ·exact MG n
    ·simp[aK,jv,jy]
 | succ h ih =>
   intro t n hn
   rw[vO]
   split
   ·exact MG n
   ·match n,hn with
    | 0,hn =>
      have:=sW.1 (show aK t≤0 by omega)
      rw[this.1,this.2]
      have e:nG (bG h) (List.map (gq (bG h)) [])=[]:=(abK _ _).2.2 rfl
      rw[e]
      rcases abH t [] [] with e|e<;>simp only[List.map_nil]<;>rw[e]
      ·exact MG 0
      ·simp[aK,jv,jy]
    | n+1,hn =>
      have hN:∀ t,aK t≤n→aK (bG h t)≤n:=fun t ht=>ih t n (.inl ht)
      have hi:(∀ a∈t.arrays,aK a.item≤n∨h≤n)∧∀ o∈t.objects,(aK o.rest≤n∨h≤n)∧∀ f∈o.fields,aK f≤n∨h≤n:=by
       rcases hn with hn|hn
       ·have:=uh.1 hn
        exact⟨fun a ha=>.inl (this.1 a ha),fun o ho=>⟨.inl (this.2 o ho).1,fun f hf=>.inl ((this.2 o ho).2 f hf)⟩⟩
       ·have:h≤n:=by omega
        exact⟨fun a ha=>.inr this,fun o ho=>⟨.inr this,fun f hf=>.inr this⟩⟩
      have hm:∀ o∈t.objects.map (gq (bG h)),hle n o:=fun o ho=>by
       obtain⟨x,hx,rfl⟩:=List.mem_map.1 ho
       exact ajP hN ⟨ih _ _ (hi.2 x hx).1,fun f hf=>ih _ _ ((hi.2 x hx).2 f hf)⟩
      refine aJF (fun a ha=>?_) (fun o ho=>?_)
      ·obtain⟨x,hx,rfl⟩:=List.mem_map.1 ha
       exact ih _ _ (hi.1 x hx)
      ·rcases apG ho with h'|⟨m,h1,_,rfl⟩
       ·exact hm o h'
       ·have:=aEU fun x hx=>hm x (h1 x hx)
        exact ajP hN ⟨hN _ this.1,fun f hf=>hN _ (this.2 f hf)⟩
theorem atW {t:Ty} {as:List Arr} {os:List Ob} (h0:t.all=false) (h1:as=[]↔t.arrays=[]) (h2:os=[]↔t.objects=[]):never (ZH t as os)=never t:=by
 have key:never (.mk false t.null t.fls t.tru t.nums (t.any||decide (16<t.texts.length)) (if 16<t.texts.length then [] else t.texts) as os)=never t:=by
  rw[Bool.eq_iff_iff,YJ,YJ]
  simp only[Ty.all_mk,Ty.agU,Ty.akz,Ty.ak5,Ty.aa3,Ty.any_mk,Ty.rz,Ty.qP,Ty.pQ,h0,h1,h2]
  by_cases h:16<t.texts.length
  ·have:¬ t.texts=[]:=fun e=>by rw[e] at h; simp at h
   simp[h,this]
  ·simp[h]
 have key2:∀ x:Ty,never (if jV x laidAll then dx else x)=never x:=fun x=>by
  split
  ·rename_i hs
   unfold jV at hs
   rw[beq_iff_eq] at hs
   obtain⟨a,b,c,d,ns,e,ts,as,os⟩:=x
   simp only[laidAll,l8,Qx,axy] at hs
   obtain⟨-,rfl,-⟩:=hs
   simp[never,bare,dx]
  ·rfl
 exact (key2 _).trans key
theorem aag (h:Nat) (t:Ty) (ht:aj t=true):never (bG h t)=never t:=by
 have he:never dx=false:=by simp[never,dx]
 have ha:t.all=true→never t=false:=fun h=>by simp[never,h]
 cases h with
 | zero =>
   rw[DZ]
   split
   ·rename_i hc
    rw[he]
    cases h1:t.all
    ·cases hn:never t
     ·rfl
     ·have:=YJ.1 hn
      simp[h1,this] at hc
    ·rw[ha h1]
   ·rename_i hc
    simp only[Bool.or_eq_true,Bool.not_eq_true',not_or,Bool.not_eq_true,Bool.not_eq_false,List.isEmpty_iff,Bool.not_eq_eq_eq_not,Bool.not_false,Bool.not_true] at hc
    exact atW hc.1.1 (by simp[hc.1.2]) (by simp[hc.2])
 | succ h =>
   rw[vO]
   split
   ·rename_i h1; rw[he,ha h1]
   ·rename_i h1
    refine atW (by simpa using h1) (by simp) ?_
    rw[(abK _ _).2]; simp
theorem arj {t:Ty} (ht:aj t=true) {as:List Arr} {os:List Ob} (h1:as.length≤1) (h2:∀ a∈as,gu a=true) (h3:∀ o∈os,bg o=true):aj (ZH t as os)=true:=by
 obtain⟨t1,t2,t3,t4,t5,t6,t7,t8⟩:=bN ht
 rcases abH t as os with e|e
 ·rw[e]; exact XQ
 ·rw[e]
  refine aad (by simp) ?_ (fun h=>?_) t4 t5 h1 h2 h3
  ·simp only[Ty.rz]
   split
   ·rfl
   ·exact t2
  ·simp only[Ty.any_mk,Ty.rz] at h ⊢
   split
   ·rfl
   ·rename_i hn
    exact t3 (by simpa[hn] using h)
theorem lu:∀ (h:Nat) (t:Ty),aj t=true→aj (bG h t)=true:=by
 intro h
 induction h with
 | zero =>
   intro t ht
   rw[DZ]
   split
   ·exact XQ
   ·exact arj ht (by simp) (by simp) (by simp)
 | succ h ih =>
   intro t ht
   rw[vO]
   split
   ·exact XQ
   ·obtain⟨t1,t2,t3,t4,t5,t6,t7,t8⟩:=bN ht
    have hv:∀ t,aj t=true→never (bG h t)=never t:=fun t ht=>aag h t ht
    refine arj ht (by simpa using t6) (fun a ha=>?_) (aa8 ih hv fun o ho=>?_)
    ·obtain⟨x,hx,rfl⟩:=List.mem_map.1 ha
     obtain⟨x1,x2,x3,x4,x5⟩:=gY (t7 x hx)
     exact aai x1 x2 x3 (ih _ x4) (by rw[Arr.Ze,hv _ x4]; exact x5)
    ·obtain⟨x,hx,rfl⟩:=List.mem_map.1 ho
     exact Dn ih hv (t8 x hx)
theorem aHe {N N' : Ty→Ty} {n:Nat} (h:∀ t,aK t≤n→N t=N' t) {o:Ob} (ho:hle n o):FQ N o=FQ N' o:=by
 unfold FQ
 have hs:=alJ ho
 generalize jr o=p at *
 simp only
 split
 ·rfl
 ·rw[h _ (aeb fun t ht=>?_)]
  rcases List.mem_cons.1 ht with rfl|ht
  ·exact hs.1
  ·exact hs.2 t (List.mem_of_mem_drop ht)
theorem anu {N N' : Ty→Ty} {n:Nat} (h:∀ t,aK t≤n→N t=N' t) (hN:∀ t,aK t≤n→aK (N t)≤n) {o:Ob} (ho:hle n o):gq N o=gq N' o:=by
 unfold gq
 have e:o.fields.map N=o.fields.map N':=List.map_congr_left fun t ht=>h t (ho.2 t ht)
 rw[← e,← h _ ho.1]
 refine aHe h ⟨hN _ ho.1,fun f hf=>?_⟩
 obtain⟨t,ht,rfl⟩:=List.mem_map.1 hf
 exact hN t (ho.2 t ht)
theorem axt {N N' : Ty→Ty} {n:Nat} (h:∀ t,aK t≤n→N t=N' t) (hN:∀ t,aK t≤n→aK (N t)≤n) {l:List Ob} (hl:∀ o∈l,hle n o):nG N l=nG N' l:=by
 unfold nG
 have hr:∀ x∈dN [] (iY l),x∈l:=fun x hx=>(zi _ _ x hx).elim (fun h=>by cases h) ((uq l).1 x)
 generalize dN [] (iY l)=row at *
 simp only
 split
 ·rfl
 ·rw[anu h hN (aEU fun o ho=>hl o (hr o (List.mem_of_mem_drop ho)))]
theorem ads:∀ (h:Nat) (t:Ty),aK t≤h→bG (h+1) t=bG h t:=by
 intro h
 induction h with
 | zero =>
   intro t ht
   have:=sW.1 ht
   rw[vO,DZ,this.1,this.2]
   have e:nG (bG 0) (List.map (gq (bG 0)) [])=[]:=(abK _ _).2.2 rfl
   rw[e]
   simp
 | succ h ih =>
   intro t ht
   obtain⟨h1,h2⟩:=uh.1 ht
   have hN:∀ t,aK t≤h→aK (bG h t)≤h:=fun t ht=>adn h t h (.inl ht)
   have he:∀ t,aK t≤h→bG h t=bG (h+1) t:=fun t ht=>(ih t ht).symm
   rw[vO (h+1),vO h]
   have e1:(t.arrays.map fun a=>Arr.mk (bG (h+1) a.item) a.min a.max)=t.arrays.map fun a=>Arr.mk (bG h a.item) a.min a.max :=
    List.map_congr_left fun a ha=>by rw[ih _ (h1 a ha)]
   have e2:t.objects.map (gq (bG (h+1)))=t.objects.map (gq (bG h)) :=
    List.map_congr_left fun o ho=>(anu he hN (h2 o ho)).symm
   rw[e1,e2,axt he hN (l:=t.objects.map (gq (bG h))) fun o ho=>by
    obtain⟨x,hx,rfl⟩:=List.mem_map.1 ho
    exact ajP hN ⟨hN _ (h2 x hx).1,fun f hf=>hN _ ((h2 x hx).2 f hf)⟩]
theorem Jd (t:Ty) (n h:Nat) (best:Ty):wO t (n+1) h best=if iw (bG h t)≤200 then wO t n (h+1) (bG h t) else best:=rfl
theorem atL {t:Ty} (h:aK t≤0):iw t=1:=by
 have:=sW.1 h
 obtain⟨a,b,c,d,ns,e,ts,as,os⟩:=t
 simp only[Ty.qP,Ty.pQ] at this
 rw[this.1,this.2]; simp[iw,lQ,oQ]
theorem anm (t:Ty):∀ (n h:Nat),aK t≤h→iw (bG h t)≤200→wO t n (h+1) (bG h t)=bG h t
 | 0,h,_,_=>rfl
 | n+1,h,h1,h2=>by
   rw[Jd,ads h t h1,if_pos h2]
   have:=anm t n (h+1) (by omega) (by rw[ads h t h1]; exact h2)
   rw[ads h t h1] at this
   exact this
theorem ape (t:Ty):∀ (n h m:Nat),h+n=aK t+1→0<h→(h=1∨iw (bG (h-1) t)≤200)→wO t (n+m) h (bG (h-1) t)=wO t n h (bG (h-1) t)
 | 0,h,m,e,h0,hp=>by
   rw[Nat.zero_add]
   show _=bG (h-1) t
   have e1:h=(h-1)+1:=by omega
   have hh:aK t≤h-1:=by omega
   have:=anm t m (h-1) hh (by
    rcases hp with hp|hp
    ·rw[atL (adn _ _ 0 (.inl (by omega)))]; omega
    ·exact hp)
   rw[← e1] at this
   exact this
 | n+1,h,m,e,h0,hp=>by
   rw[show n+1+m=(n+m)+1 by omega,Jd,Jd]
   split
   ·rename_i hle
    have:=ape t n (h+1) m (by omega) (by omega) (.inr (by simpa using hle))
    simpa using this
   ·rfl
theorem aK2 (t:Ty):wO t (min (aK t) 8) 1 (bG 0 t)=l9 t:=by
 unfold l9
 by_cases h:aK t≤8
 ·rw[Nat.min_eq_left h]
  have:=ape t (aK t) 1 (8-aK t) (by omega) (by omega) (.inl rfl)
  rw[show aK t+(8-aK t)=8 by omega] at this
  exact this.symm
 ·rw[Nat.min_eq_right (by omega)]
theorem arh (t:Ty):∀ (n h:Nat),∃ k,k≤h+n∧h≤k∧wO t n (h+1) (bG h t)=bG k t
 | 0,h=>⟨h,by omega,by omega,rfl⟩
 | n+1,h=>by
   rw[Jd]
   split
   ·obtain⟨k,h1,h2,h3⟩:=arh t n (h+1)
    exact⟨k,by omega,by omega,h3⟩
   ·exact⟨h,by omega,by omega,rfl⟩
theorem atA (t:Ty):∃ k,k≤8∧l9 t=bG k t:=by
 obtain⟨k,h1,_,h3⟩:=arh t 8 0
 exact⟨k,by omega,h3⟩
end Go.Tidy

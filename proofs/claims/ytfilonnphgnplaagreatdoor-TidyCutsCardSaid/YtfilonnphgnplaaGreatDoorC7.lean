/- Part 7. -/
import Derived.Test.YtfilonnphgnplaaGreatDoorC6
set_option linter.unusedSimpArgs false
set_option linter.unusedVariables false
namespace Go.Tidy
def Q3 (p q r:Ordering):Prop:=(p.isLE=true→q.isLE=true→r.isLE=true)∧(p=.eq→q=.eq→r=.eq)∧(p.isLE=true→q.isLE=true→r=.eq→p=.eq∧q=.eq)
instance (p q r:Ordering):Decidable (Q3 p q r):=by unfold Q3; infer_instance
theorem Q3.then {p q r p' q' r' : Ordering} (h:Q3 p q r) (k:Q3 p' q' r'):Q3 (p.then p') (q.then q') (r.then r'):=by
 revert p q r p' q' r'
 decide
theorem swap_then' (p q:Ordering):(p.then q).swap=p.swap.then q.swap:=by cases p<;>rfl
theorem then_eq' {p q:Ordering}:p.then q=.eq↔p=.eq∧q=.eq:=by cases p<;>cases q<;>decide
theorem bCmp_swap (a b:Bool):bCmp b a=(bCmp a b).swap:=by cases a<;>cases b<;>rfl
theorem bCmp_Q (a b d:Bool):Q3 (bCmp a b) (bCmp b d) (bCmp a d):=by cases a<;>cases b<;>cases d<;>decide
theorem bCmp_eq {a b:Bool}:bCmp a b=.eq↔a=b:=by cases a<;>cases b<;>decide
theorem cmpI_swap (a b:Int):compare b a=(compare a b).swap:=by
 simp only[compare,compareOfLessAndEq]
 by_cases h1:a<b
 ·rw[if_neg (by omega),if_neg (by omega),if_pos h1]; rfl
 ·by_cases h2:a=b
  ·subst h2; simp
  ·rw[if_pos (by omega),if_neg h1,if_neg h2]; rfl
theorem cmpI_eq {a b:Int}:compare a b=.eq↔a=b:=by
 simp only[compare,compareOfLessAndEq]
 split<;>(try split)<;>simp_all<;>omega
theorem cmpI_lt {a b:Int}:compare a b=.lt↔a<b:=by
 simp only[compare,compareOfLessAndEq]
 split<;>(try split)<;>simp_all
theorem cmpI_gt {a b:Int}:compare a b=.gt↔b<a:=by
 simp only[compare,compareOfLessAndEq]
 split<;>(try split)<;>simp_all<;>omega
theorem isLE_iff {p:Ordering}:p.isLE=true↔p=.lt∨p=.eq:=by cases p<;>simp
theorem cmpI_Q (a b d:Int):Q3 (compare a b) (compare b d) (compare a d):=by
 simp only[Q3,isLE_iff,cmpI_lt,cmpI_eq]
 omega
theorem cmpN_eq' (a b:Nat):compare a b=compare (a:Int) (b:Int):=by
 simp only[compare,compareOfLessAndEq]
 split<;>split<;>(try split)<;>simp_all<;>omega
theorem cmpN_swap (a b:Nat):compare b a=(compare a b).swap:=by rw[cmpN_eq',cmpN_eq']; exact cmpI_swap _ _
theorem cmpN_Q (a b d:Nat):Q3 (compare a b) (compare b d) (compare a d):=by rw[cmpN_eq',cmpN_eq',cmpN_eq']; exact cmpI_Q _ _ _
theorem cmpN_eq {a b:Nat}:compare a b=.eq↔a=b:=by rw[cmpN_eq',cmpI_eq]; omega
def uCmp (a b:UInt8):Ordering:=compare a.toNat b.toNat
theorem uCmp_eq {a b:UInt8}:uCmp a b=.eq↔a=b:=by
 unfold uCmp; rw[cmpN_eq]; exact UInt8.toNat_inj
section
variable {α:Type} {f:α→α→Ordering}
theorem lexC_swap (hf:∀ a b,f b a=(f a b).swap):∀ l m:List α,lexC f m l=(lexC f l m).swap
 | [],[]=>rfl
 | [],_::_=>rfl
 | _::_,[]=>rfl
 | a::l,b::m=>by simp only[lexC,swap_then',hf a b,lexC_swap hf l m]
theorem lexC_Q (hf:∀ a b d,Q3 (f a b) (f b d) (f a d)):∀ l m n:List α,Q3 (lexC f l m) (lexC f m n) (lexC f l n)
 | [],[],[]=>by simp[lexC,Q3]
 | [],[],_::_=>by simp[lexC,Q3]
 | [],_::_,[]=>by simp[lexC,Q3]
 | [],_::_,_::_=>by simp[lexC,Q3]
 | _::_,[],[]=>by simp[lexC,Q3]
 | _::_,[],_::_=>by simp[lexC,Q3]
 | _::_,_::_,[]=>by simp[lexC,Q3]
 | a::l,b::m,d::n=>by
   simp only[lexC]
   exact (hf a b d).then (lexC_Q hf l m n)
theorem lexC_eq {D:α→Prop} (hf:∀ a b,D a→D b→f a b=.eq→a=b):∀ l m:List α,(∀ x∈l,D x)→(∀ x∈m,D x)→lexC f l m=.eq→l=m
 | [],[],_,_,_=>rfl
 | [],_::_,_,_,h=>by simp[lexC] at h
 | _::_,[],_,_,h=>by simp[lexC] at h
 | a::l,b::m,h1,h2,h=>by
   simp only[lexC,then_eq'] at h
   rw[hf a b (h1 a (by simp)) (h2 b (by simp)) h.1,lexC_eq hf l m (fun x hx=>h1 x (by simp[hx])) (fun x hx=>h2 x (by simp[hx])) h.2]
theorem lexC_refl (hf:∀ a,f a a=.eq):∀ l:List α,lexC f l l=.eq
 | []=>rfl
 | a::l=>by simp only[lexC,hf a,lexC_refl hf l]; rfl
end
theorem lCmp_lex:∀ x y:List UInt8,lCmp x y=lexC uCmp x y
 | [],[]=>rfl
 | [],_::_=>rfl
 | _::_,[]=>rfl
 | a::x,b::y=>by
   have ih:=lCmp_lex x y
   simp only[lexC,← ih]
   unfold lCmp uCmp
   simp only[Op.bytesLess,compare,compareOfLessAndEq]
   by_cases h1:a<b
   ·have:a.toNat<b.toNat:=h1
    simp[h1,this,Ordering.then]
   ·have h1' : ¬ a.toNat<b.toNat:=h1
    by_cases h2:a=b
    ·subst h2
     simp[Ordering.then]
    ·have h2' : a.toNat≠b.toNat:=fun e=>h2 (UInt8.toNat_inj.1 e)
     simp[h1,h1',h2,h2',Ordering.then]
theorem sCmp_lex (a b:S):sCmp a b=lexC uCmp a.data.toList b.data.toList:=lCmp_lex _ _
theorem uCmp_swap (a b:UInt8):uCmp b a=(uCmp a b).swap:=cmpN_swap _ _
theorem uCmp_Q (a b d:UInt8):Q3 (uCmp a b) (uCmp b d) (uCmp a d):=cmpN_Q _ _ _
theorem sCmp_swap (a b:S):sCmp b a=(sCmp a b).swap:=by rw[sCmp_lex,sCmp_lex]; exact lexC_swap uCmp_swap _ _
theorem sCmp_Q (a b d:S):Q3 (sCmp a b) (sCmp b d) (sCmp a d):=by rw[sCmp_lex,sCmp_lex,sCmp_lex]; exact lexC_Q uCmp_Q _ _ _
theorem sExt {a b:S} (h:a.data.toList=b.data.toList):a=b:=ByteArray.ext (Array.ext' h)
theorem sEq_iff {a b:S}:sEq a b=true↔a=b:=⟨fun h=>sExt (by simpa[sEq] using h),fun h=>by subst h; simp[sEq]⟩
theorem sCmp_eq {a b:S}:sCmp a b=.eq↔a=b:=by
 rw[sCmp_lex]
 refine⟨fun h=>sExt (lexC_eq (D:=fun _=>True) (fun a b _ _ h=>uCmp_eq.1 h) _ _ (fun _ _=>trivial) (fun _ _=>trivial) h),fun h=>by subst h; exact lexC_refl (fun _=>uCmp_eq.2 rfl) _⟩
theorem sCmp_lt {a b:S}:sCmp a b=.lt↔sLt a b=true:=by
 unfold sCmp
 split
 ·simp_all
 ·split<;>simp_all
theorem sLt_irrefl (a:S):sLt a a=false:=by
 cases h:sLt a a with
 | false=>rfl
 | true=>rw[← sCmp_lt,sCmp_eq.2 rfl] at h; cases h
theorem sLt_trans {a b d:S} (h:sLt a b=true) (k:sLt b d=true):sLt a d=true:=by
 rw[← sCmp_lt] at *
 have:=sCmp_Q a b d
 rw[h,k] at this
 cases hr:sCmp a d<;>rw[hr] at this<;>simp[Q3] at this ⊢
theorem sLt_tri (a b:S):sLt a b=true∨a=b∨sLt b a=true:=by
 cases h:sCmp a b with
 | lt=>exact .inl (sCmp_lt.1 h)
 | eq=>exact .inr (.inl (sCmp_eq.1 h))
 | gt=>exact .inr (.inr (sCmp_lt.1 (by rw[sCmp_swap,h]; rfl)))
theorem sEmp_iff {a:S}:sEmp a=true↔a=ByteArray.empty:=by
 unfold sEmp
 rw[List.isEmpty_iff]
 exact⟨fun h=>sExt (by rw[h]; rfl),fun h=>by subst h; rfl⟩
theorem digCmp_swap (x y:List UInt8):digCmp y x=(digCmp x y).swap:=by
 unfold digCmp; rw[swap_then',← cmpN_swap,lCmp_lex,lCmp_lex,← lexC_swap uCmp_swap]
theorem digCmp_Q (x y z:List UInt8):Q3 (digCmp x y) (digCmp y z) (digCmp x z):=by
 unfold digCmp; rw[lCmp_lex,lCmp_lex,lCmp_lex]; exact (cmpN_Q _ _ _).then (lexC_Q uCmp_Q _ _ _)
theorem digCmp_eq {x y:List UInt8}:digCmp x y=.eq↔x=y:=by
 unfold digCmp
 rw[then_eq',lCmp_lex]
 refine⟨fun h=>lexC_eq (D:=fun _=>True) (fun a b _ _ h=>uCmp_eq.1 h) _ _ (fun _ _=>trivial) (fun _ _=>trivial) h.2,fun h=>by subst h; exact⟨cmpN_eq.2 rfl,lexC_refl (fun _=>uCmp_eq.2 rfl) _⟩⟩
theorem numCmp_swap (a b:S):numCmp b a=(numCmp a b).swap:=by
 unfold numCmp
 cases neg a<;>cases neg b<;>first|rfl|exact digCmp_swap _ _
theorem digCmp_Qr (x y z:List UInt8):Q3 (digCmp y x) (digCmp z y) (digCmp z x):=by
 have h:=digCmp_Q z y x
 revert h
 generalize digCmp z y=p; generalize digCmp y x=q; generalize digCmp z x=r
 revert p q r
 decide
theorem numCmp_Q (a b d:S):Q3 (numCmp a b) (numCmp b d) (numCmp a d):=by
 unfold numCmp
 cases neg a<;>cases neg b<;>cases neg d<;>simp only
 all_goals first
   | exact digCmp_Q _ _ _
   | exact digCmp_Qr _ _ _
   | (simp[Q3]; done)
   | (simp[Q3]; intro h; cases hh:digCmp _ _<;>simp_all)
theorem neg_digs {a b:S} (h:neg a=neg b) (hd:digs a=digs b):a=b:=by
 refine sExt ?_
 unfold digs at hd
 rw[h] at hd
 cases hb:neg b with
 | false=>simpa[hb] using hd
 | true =>
   rw[hb] at hd h
   simp only[if_true] at hd
   simp only[neg,beq_iff_eq] at h hb
   cases ha' : a.data.toList with
   | nil=>rw[ha'] at h; cases h
   | cons x l =>
     cases hb' : b.data.toList with
     | nil=>rw[hb'] at hb; cases hb
     | cons y m=>rw[ha',hb'] at hd; rw[ha'] at h; rw[hb'] at hb; simp at h hb hd; subst h; subst hb; rw[hd]
theorem numCmp_eq {a b:S}:numCmp a b=.eq↔a=b:=by
 refine⟨fun h=>?_,fun h=>?_⟩
 ·unfold numCmp at h
  cases ha:neg a<;>cases hb:neg b<;>simp only[ha,hb,digCmp_eq] at h
  ·exact neg_digs (ha.trans hb.symm) h
  ·cases h
  ·cases h
  ·exact neg_digs (ha.trans hb.symm) h.symm
 ·subst h
  unfold numCmp
  cases neg a<;>simp[digCmp_eq.2]
theorem boundCmp_ne {o:Ordering} {a b:S} (h:a≠b):boundCmp o a b=if sEmp a then o else if sEmp b then o.swap else numCmp a b:=by
 unfold boundCmp; rw[if_neg (fun h'=>h (sEq_iff.1 h'))]
theorem boundCmp_self {o:Ordering} {a:S}:boundCmp o a a=.eq:=by
 unfold boundCmp; rw[if_pos (sEq_iff.2 rfl)]
theorem boundCmp_eq {o:Ordering} (ho:o≠.eq) {a b:S}:boundCmp o a b=.eq↔a=b:=by
 by_cases h:a=b
 ·subst h; simp[boundCmp_self]
 ·rw[boundCmp_ne h]
  simp only[h,iff_false]
  split
  ·exact ho
  ·split
   ·cases o<;>first|exact absurd rfl ho|decide
   ·rw[numCmp_eq]; exact h
theorem boundCmp_swap (o:Ordering) (a b:S):boundCmp o b a=(boundCmp o a b).swap:=by
 by_cases h:a=b
 ·subst h; rw[boundCmp_self]; rfl
 ·rw[boundCmp_ne h,boundCmp_ne (Ne.symm h)]
  by_cases ha:sEmp a=true<;>by_cases hb:sEmp b=true
  ·exact absurd ((sEmp_iff.1 ha).trans (sEmp_iff.1 hb).symm) h
  ·rw[if_neg hb,if_pos ha,if_pos ha]
  ·rw[if_pos hb,if_neg ha,if_pos hb]; cases o<;>rfl
  ·rw[if_neg hb,if_neg ha,if_neg ha,if_neg hb]; exact numCmp_swap _ _
theorem boundCmp_Q (o:Ordering) (ho:o≠.eq) (a b d:S):Q3 (boundCmp o a b) (boundCmp o b d) (boundCmp o a d):=by
 by_cases hab:a=b
 ·subst hab
  rw[boundCmp_self]
  generalize boundCmp o a d=r; revert r; decide
 by_cases hbd:b=d
 ·subst hbd
  rw[boundCmp_self]
  generalize boundCmp o a b=r; revert r; decide
 by_cases had:a=d
 ·subst had
  rw[boundCmp_swap o a b,boundCmp_self]
  have:boundCmp o a b≠.eq:=fun h=>hab ((boundCmp_eq ho).1 h)
  revert this
  generalize boundCmp o a b=r; revert r; decide
 rw[boundCmp_ne hab,boundCmp_ne hbd,boundCmp_ne had]
 by_cases ha:sEmp a=true<;>by_cases hb:sEmp b=true<;>by_cases hd:sEmp d=true
 all_goals first
   | exact absurd ((sEmp_iff.1 ha).trans (sEmp_iff.1 hb).symm) hab
   | exact absurd ((sEmp_iff.1 hb).trans (sEmp_iff.1 hd).symm) hbd
   | exact absurd ((sEmp_iff.1 ha).trans (sEmp_iff.1 hd).symm) had
   | skip
 ·rw[if_pos ha,if_neg hb,if_neg hd,if_pos ha]
  generalize numCmp b d=r; clear ha hb hd hab hbd had; revert r; cases o<;>first|exact absurd rfl ho|decide
 ·rw[if_neg ha,if_pos hb,if_pos hb,if_neg ha,if_neg hd]
  generalize numCmp a d=r; clear ha hb hd hab hbd had; revert r; cases o<;>first|exact absurd rfl ho|decide
 ·rw[if_neg ha,if_neg hb,if_neg hb,if_pos hd,if_neg ha,if_pos hd]
  generalize numCmp a b=r; clear ha hb hd hab hbd had; revert r; cases o<;>first|exact absurd rfl ho|decide
 ·rw[if_neg ha,if_neg hb,if_neg hb,if_neg hd,if_neg ha,if_neg hd]
  exact numCmp_Q _ _ _
theorem spanCmp_swap (a b:Span):spanCmp b a=(spanCmp a b).swap:=by unfold spanCmp; rw[swap_then',← boundCmp_swap,← boundCmp_swap]
theorem spanCmp_Q (a b d:Span):Q3 (spanCmp a b) (spanCmp b d) (spanCmp a d):=(boundCmp_Q _ (by decide) _ _ _).then (boundCmp_Q _ (by decide) _ _ _)
theorem spanCmp_eq {a b:Span}:spanCmp a b=.eq↔a=b:=by
 unfold spanCmp
 rw[then_eq',boundCmp_eq (by decide),boundCmp_eq (by decide)]
 cases a; cases b; simp
theorem mostCmp_swap (a b:Int):mostCmp b a=(mostCmp a b).swap:=by
 unfold mostCmp
 by_cases ha:a<0<;>by_cases hb:b<0<;>simp[ha,hb]
 exact cmpI_swap _ _
theorem mostCmp_Q (a b d:Int):Q3 (mostCmp a b) (mostCmp b d) (mostCmp a d):=by
 unfold mostCmp
 by_cases ha:a<0<;>by_cases hb:b<0<;>by_cases hd:d<0<;>simp only[ha,hb,hd,if_true,if_false]
 all_goals first
   | decide
   | exact cmpI_Q _ _ _
   | (simp[Q3]; done)
   | (generalize compare _ _=r; revert r; decide)
theorem mostCmp_eq {a b:Int} (ha : -1≤a) (hb : -1≤b):mostCmp a b=.eq↔a=b:=by
 unfold mostCmp
 split<;>split
 ·simp; omega
 ·simp; omega
 ·simp; omega
 ·exact cmpI_eq
mutual
theorem cmpT_swap:∀ a b:Ty,cmpT b a=(cmpT a b).swap
 | .mk a b c d ns e ts as os,.mk a' b' c' d' ns' e' ts' as' os'=>by
   simp only[cmpT,swap_then',← bCmp_swap,← lexC_swap spanCmp_swap,← lexC_swap sCmp_swap,← cmpAs_swap as as',← cmpOs_swap os os']
theorem cmpA_swap:∀ a b:Arr,cmpA b a=(cmpA a b).swap
 | .mk t lo hi,.mk t' lo' hi'=>by simp only[cmpA,swap_then',← cmpI_swap,← mostCmp_swap,← cmpT_swap t t']
theorem cmpO_swap:∀ a b:Ob,cmpO b a=(cmpO a b).swap
 | .mk ns fs ms r,.mk ns' fs' ms' r'=>by simp only[cmpO,swap_then',← lexC_swap sCmp_swap,← lexC_swap bCmp_swap,← cmpTs_swap fs fs',← cmpT_swap r r']
theorem cmpAs_swap:∀ a b:List Arr,cmpAs b a=(cmpAs a b).swap
 | [],[]=>by simp[cmpAs]
 | [],_::_=>by simp[cmpAs]
 | _::_,[]=>by simp[cmpAs]
 | a::l,b::m=>by simp only[cmpAs,swap_then',← cmpA_swap a b,← cmpAs_swap l m]
theorem cmpOs_swap:∀ a b:List Ob,cmpOs b a=(cmpOs a b).swap
 | [],[]=>by simp[cmpOs]
 | [],_::_=>by simp[cmpOs]
 | _::_,[]=>by simp[cmpOs]
 | a::l,b::m=>by simp only[cmpOs,swap_then',← cmpO_swap a b,← cmpOs_swap l m]
theorem cmpTs_swap:∀ a b:List Ty,cmpTs b a=(cmpTs a b).swap
 | [],[]=>by simp[cmpTs]
 | [],_::_=>by simp[cmpTs]
 | _::_,[]=>by simp[cmpTs]
 | a::l,b::m=>by simp only[cmpTs,swap_then',← cmpT_swap a b,← cmpTs_swap l m]
end
mutual
theorem cmpT_Q:∀ a b d:Ty,Q3 (cmpT a b) (cmpT b d) (cmpT a d)
 | .mk _ _ _ _ _ _ _ as os,.mk _ _ _ _ _ _ _ as' os',.mk _ _ _ _ _ _ _ as'' os''=>by
   simp only[cmpT]
   exact (bCmp_Q _ _ _).then ((bCmp_Q _ _ _).then ((bCmp_Q _ _ _).then ((bCmp_Q _ _ _).then ((lexC_Q spanCmp_Q _ _ _).then ((bCmp_Q _ _ _).then ((lexC_Q sCmp_Q _ _ _).then ((cmpAs_Q as as' as'').then (cmpOs_Q os os' os''))))))))
theorem cmpA_Q:∀ a b d:Arr,Q3 (cmpA a b) (cmpA b d) (cmpA a d)
 | .mk t _ _,.mk t' _ _,.mk t'' _ _=>by
   simp only[cmpA]
   exact (cmpI_Q _ _ _).then ((mostCmp_Q _ _ _).then (cmpT_Q t t' t''))
theorem cmpO_Q:∀ a b d:Ob,Q3 (cmpO a b) (cmpO b d) (cmpO a d)
 | .mk _ fs _ r,.mk _ fs' _ r',.mk _ fs'' _ r''=>by
   simp only[cmpO]
   exact (lexC_Q sCmp_Q _ _ _).then ((lexC_Q bCmp_Q _ _ _).then ((cmpTs_Q fs fs' fs'').then (cmpT_Q r r' r'')))
theorem cmpAs_Q:∀ a b d:List Arr,Q3 (cmpAs a b) (cmpAs b d) (cmpAs a d)
 | [],[],[]=>by simp[cmpAs,Q3]
 | [],[],_::_=>by simp[cmpAs,Q3]
 | [],_::_,[]=>by simp[cmpAs,Q3]
 | [],_::_,_::_=>by simp[cmpAs,Q3]
 | _::_,[],[]=>by simp[cmpAs,Q3]
 | _::_,[],_::_=>by simp[cmpAs,Q3]
 | _::_,_::_,[]=>by simp[cmpAs,Q3]
 | a::l,b::m,d::n=>by
   simp only[cmpAs]
   exact (cmpA_Q a b d).then (cmpAs_Q l m n)
theorem cmpOs_Q:∀ a b d:List Ob,Q3 (cmpOs a b) (cmpOs b d) (cmpOs a d)
 | [],[],[]=>by simp[cmpOs,Q3]
 | [],[],_::_=>by simp[cmpOs,Q3]
 | [],_::_,[]=>by simp[cmpOs,Q3]
 | [],_::_,_::_=>by simp[cmpOs,Q3]
 | _::_,[],[]=>by simp[cmpOs,Q3]
 | _::_,[],_::_=>by simp[cmpOs,Q3]
 | _::_,_::_,[]=>by simp[cmpOs,Q3]
 | a::l,b::m,d::n=>by
   simp only[cmpOs]
   exact (cmpO_Q a b d).then (cmpOs_Q l m n)
theorem cmpTs_Q:∀ a b d:List Ty,Q3 (cmpTs a b) (cmpTs b d) (cmpTs a d)
 | [],[],[]=>by simp[cmpTs,Q3]
 | [],[],_::_=>by simp[cmpTs,Q3]
 | [],_::_,[]=>by simp[cmpTs,Q3]
 | [],_::_,_::_=>by simp[cmpTs,Q3]
 | _::_,[],[]=>by simp[cmpTs,Q3]
 | _::_,[],_::_=>by simp[cmpTs,Q3]
 | _::_,_::_,[]=>by simp[cmpTs,Q3]
 | a::l,b::m,d::n=>by
   simp only[cmpTs]
   exact (cmpT_Q a b d).then (cmpTs_Q l m n)
end
mutual
def maxOkT:Ty→Prop
 | .mk _ _ _ _ _ _ _ as os=>maxOkAs as∧maxOkOs os
def maxOkAs:List Arr→Prop
 | []=>True
 | .mk t _ hi::l=>(-1≤hi∧maxOkT t)∧maxOkAs l
def maxOkOs:List Ob→Prop
 | []=>True
 | .mk _ fs _ r::l=>(maxOkTs fs∧maxOkT r)∧maxOkOs l
def maxOkTs:List Ty→Prop
 | []=>True
 | t::l=>maxOkT t∧maxOkTs l
end
theorem lexS_eq {l m:List S} (h:lexC sCmp l m=.eq):l=m:=lexC_eq (D:=fun _=>True) (fun _ _ _ _ h=>sCmp_eq.1 h) _ _ (fun _ _=>trivial) (fun _ _=>trivial) h
theorem lexB_eq {l m:List Bool} (h:lexC bCmp l m=.eq):l=m:=lexC_eq (D:=fun _=>True) (fun _ _ _ _ h=>bCmp_eq.1 h) _ _ (fun _ _=>trivial) (fun _ _=>trivial) h
theorem lexN_eq {l m:List Span} (h:lexC spanCmp l m=.eq):l=m:=lexC_eq (D:=fun _=>True) (fun _ _ _ _ h=>spanCmp_eq.1 h) _ _ (fun _ _=>trivial) (fun _ _=>trivial) h
mutual
theorem cmpT_eq:∀ a b:Ty,maxOkT a→maxOkT b→cmpT a b=.eq→a=b
 | .mk _ _ _ _ _ _ _ as os,.mk _ _ _ _ _ _ _ as' os',h1,h2,h=>by
   simp only[cmpT,then_eq',bCmp_eq] at h
   obtain⟨rfl,rfl,rfl,rfl,e1,rfl,e2,e3,e4⟩:=h
   rw[lexN_eq e1,lexS_eq e2,cmpAs_eq' as as' h1.1 h2.1 e3,cmpOs_eq' os os' h1.2 h2.2 e4]
theorem cmpAs_eq' : ∀ a b:List Arr,maxOkAs a→maxOkAs b→cmpAs a b=.eq→a=b
 | [],[],_,_,_=>rfl
 | [],_::_,_,_,h=>by simp[cmpAs] at h
 | _::_,[],_,_,h=>by simp[cmpAs] at h
 | .mk t lo hi::l,.mk t' lo' hi'::m,h1,h2,h=>by
   simp only[cmpAs,cmpA,then_eq',cmpI_eq,mostCmp_eq h1.1.1 h2.1.1] at h
   obtain⟨⟨rfl,rfl,e1⟩,e2⟩:=h
   rw[cmpT_eq t t' h1.1.2 h2.1.2 e1,cmpAs_eq' l m h1.2 h2.2 e2]
theorem cmpOs_eq' : ∀ a b:List Ob,maxOkOs a→maxOkOs b→cmpOs a b=.eq→a=b
 | [],[],_,_,_=>rfl
 | [],_::_,_,_,h=>by simp[cmpOs] at h
 | _::_,[],_,_,h=>by simp[cmpOs] at h
 | .mk ns fs ms r::l,.mk ns' fs' ms' r'::m,h1,h2,h=>by
   simp only[cmpOs,cmpO,then_eq'] at h
   obtain⟨⟨e1,e2,e3,e4⟩,e5⟩:=h
   rw[lexS_eq e1,lexB_eq e2,cmpTs_eq' fs fs' h1.1.1 h2.1.1 e3,cmpT_eq r r' h1.1.2 h2.1.2 e4,cmpOs_eq' l m h1.2 h2.2 e5]
theorem cmpTs_eq' : ∀ a b:List Ty,maxOkTs a→maxOkTs b→cmpTs a b=.eq→a=b
 | [],[],_,_,_=>rfl
 | [],_::_,_,_,h=>by simp[cmpTs] at h
 | _::_,[],_,_,h=>by simp[cmpTs] at h
 | t::l,t'::m,h1,h2,h=>by
   simp only[cmpTs,then_eq'] at h
   rw[cmpT_eq t t' h1.1 h2.1 h.1,cmpTs_eq' l m h1.2 h2.2 h.2]
end
end Go.Tidy
namespace Go.Tidy
section
variable {α:Type} {f:α→α→Ordering}
def SS (f:α→α→Ordering) (l:List α):Prop:=l.Pairwise fun a b=>f a b=.lt
theorem self_eq (hs:∀ a b,f b a=(f a b).swap) (a:α):f a a=.eq:=by
 have:=hs a a
 cases h:f a a<;>rw[h] at this<;>simp_all
theorem SS_ext (hs:∀ a b,f b a=(f a b).swap):∀ {l m:List α},SS f l→SS f m→(∀ x,x∈l↔x∈m)→l=m
 | [],[],_,_,_=>rfl
 | [],b::m,_,_,h=>by have:=(h b).2 (by simp); simp at this
 | a::l,[],_,_,h=>by have:=(h a).1 (by simp); simp at this
 | a::l,b::m,h1,h2,h=>by
   unfold SS at h1 h2
   rw[List.pairwise_cons] at h1 h2
   have e:a=b:=by
    rcases List.mem_cons.1 ((h a).1 (by simp)) with e|ha
    ·exact e
    ·rcases List.mem_cons.1 ((h b).2 (by simp)) with e|hb
     ·exact e.symm
     ·have k1:=h1.1 b hb
      have k2:=h2.1 a ha
      rw[hs b a,k2] at k1
      cases k1
   subst e
   congr 1
   refine SS_ext hs h1.2 h2.2 fun x=>⟨fun hx=>?_,fun hx=>?_⟩
   ·rcases List.mem_cons.1 ((h x).1 (List.mem_cons_of_mem _ hx)) with e|hm
    ·subst e
     have:=h1.1 x hx
     rw[self_eq hs] at this; cases this
    ·exact hm
   ·rcases List.mem_cons.1 ((h x).2 (List.mem_cons_of_mem _ hx)) with e|hm
    ·subst e
     have:=h2.1 x hx
     rw[self_eq hs] at this; cases this
    ·exact hm
def insC (f:α→α→Ordering) (o:α):List α→List α
 | []=>[o]
 | x::l=>match f o x with
   | .lt=>o::x::l
   | .eq=>x::l
   | .gt=>x::insC f o l
theorem lt_trans' (hQ:∀ a b d,Q3 (f a b) (f b d) (f a d)) {a b d:α} (h:f a b=.lt) (k:f b d=.lt):f a d=.lt:=by
 have:=hQ a b d
 rw[h,k] at this
 cases hr:f a d<;>rw[hr] at this<;>simp[Q3] at this ⊢
theorem mem_insC {D:α→Prop} (he:∀ a b,D a→D b→f a b=.eq→a=b) {o:α} (ho:D o):∀ {l:List α},(∀ x∈l,D x)→∀ y,y∈insC f o l↔y=o∨y∈l
 | [],_,y=>by simp[insC]
 | x::l,hl,y=>by
   simp only[insC]
   split
   ·simp
   ·rename_i h
    have:=he o x ho (hl x (by simp)) h
    subst this
    simp
   ·rw[List.mem_cons,mem_insC he ho (fun z hz=>hl z (by simp[hz])) y,List.mem_cons]
    exact⟨fun h=>by rcases h with h|h|h<;>simp[h],fun h=>by rcases h with h|h|h<;>simp[h]⟩
theorem SS_insC {D:α→Prop} (hs:∀ a b,f b a=(f a b).swap) (hQ:∀ a b d,Q3 (f a b) (f b d) (f a d)) (he:∀ a b,D a→D b→f a b=.eq→a=b) {o:α} (ho:D o):∀ {l:List α},(∀ x∈l,D x)→SS f l→SS f (insC f o l)
 | [],_,_=>by simp[insC,SS]
 | x::l,hl,h=>by
   unfold SS at h ⊢
   rw[List.pairwise_cons] at h
   simp only[insC]
   split
   ·rename_i hlt
    rw[List.pairwise_cons,List.pairwise_cons]
    refine⟨fun y hy=>?_,h.1,h.2⟩
    rcases List.mem_cons.1 hy with rfl|hy
    ·exact hlt
    ·exact lt_trans' hQ hlt (h.1 y hy)
   ·rw[List.pairwise_cons]; exact h
   ·rename_i hgt
    rw[List.pairwise_cons]
    refine⟨fun y hy=>?_,SS_insC hs hQ he ho (fun z hz=>hl z (by simp[hz])) h.2⟩
    rcases (mem_insC he ho (fun z hz=>hl z (by simp[hz])) y).1 hy with rfl|hy
    ·rw[hs,hgt]; rfl
    ·exact h.1 y hy
def setC (f:α→α→Ordering) (l:List α):List α:=l.foldl (fun acc o=>insC f o acc) []
theorem setC_spec {D:α→Prop} (hs:∀ a b,f b a=(f a b).swap) (hQ:∀ a b d,Q3 (f a b) (f b d) (f a d)) (he:∀ a b,D a→D b→f a b=.eq→a=b) (l:List α) (hl:∀ x∈l,D x) :
 SS f (setC f l)∧∀ y,y∈setC f l↔y∈l:=by
 have key:∀ (l acc:List α),(∀ x∈l,D x)→(∀ x∈acc,D x)→SS f acc→SS f (l.foldl (fun acc o=>insC f o acc) acc)∧∀ y,y∈l.foldl (fun acc o=>insC f o acc) acc↔y∈acc∨y∈l:=by
  intro l
  induction l with
  | nil=>intro acc _ _ h; exact⟨h,by simp⟩
  | cons o l ih =>
    intro acc hl ha h
    have ho:=hl o (by simp)
    have hm:=mem_insC he ho ha
    obtain⟨k1,k2⟩:=ih (insC f o acc) (fun x hx=>hl x (by simp[hx])) (fun x hx=>by
     rcases (hm x).1 hx with rfl|hx
     ·exact ho
     ·exact ha x hx) (SS_insC hs hQ he ho ha h)
    refine⟨k1,fun y=>?_⟩
    rw[List.foldl_cons,k2 y,hm y,List.mem_cons]
    exact⟨fun h=>by rcases h with (h|h)|h<;>simp[h],fun h=>by rcases h with h|h|h<;>simp[h]⟩
 obtain⟨k1,k2⟩:=key l [] hl (by simp) (by simp[SS])
 exact⟨k1,fun y=>(k2 y).trans (by simp)⟩
def compC (e:α→α→Bool):List α→List α
 | []=>[]
 | [a]=>[a]
 | a::b::l=>if e b a then (match compC e (b::l) with|_::m=>a::m|[]=>[a]) else a::compC e (b::l)
theorem compC_sorted {D:α→Prop} (hs:∀ a b,f b a=(f a b).swap) (hQ:∀ a b d,Q3 (f a b) (f b d) (f a d)) (he:∀ a b,D a→D b→f a b=.eq→a=b):∀ (l:List α),(∀ x∈l,D x)→l.Pairwise (fun a b=>f a b≠.gt) →
 SS f (compC (fun a b=>f a b == .eq) l)∧(∀ y,y∈compC (fun a b=>f a b == .eq) l↔y∈l)∧(compC (fun a b=>f a b == .eq) l).head? = l.head?
 | [],_,_=>by simp[compC,SS]
 | [a],_,_=>by simp[compC,SS]
 | a::b::l,hl,h=>by
   rw[List.pairwise_cons] at h
   obtain⟨k1,k2,k3⟩:=compC_sorted hs hQ he (b::l) (fun x hx=>hl x (by simp[hx])) h.2
   simp only[compC]
   split
   ·rename_i heq
    have e:b=a:=he b a (hl b (by simp)) (hl a (by simp)) (by simpa using heq)
    subst e
    cases hc:compC (fun a b=>f a b == .eq) (b::l) with
    | nil=>rw[hc] at k3; simp at k3
    | cons c m =>
      rw[hc] at k1 k2 k3
      simp only[List.head?_cons,Option.some.injEq] at k3
      subst k3
      refine⟨k1,fun y=>?_,rfl⟩
      rw[k2 y]
      simp
   ·rename_i hne
    have hlt:f a b=.lt:=by
     have h1:=h.1 b (by simp)
     cases hab:f a b with
     | lt=>rfl
     | eq=>rw[hs a b,hab] at hne; exact absurd rfl hne
     | gt=>exact absurd hab h1
    refine⟨?_,fun y=>by rw[List.mem_cons,k2 y,List.mem_cons (a:=y) (b:=a)],rfl⟩
    unfold SS
    rw[List.pairwise_cons]
    refine⟨fun y hy=>?_,k1⟩
    rcases List.mem_cons.1 ((k2 y).1 hy) with rfl|hy'
    ·exact hlt
    ·have h2:=(List.pairwise_cons.1 h.2).1 y hy'
     cases hby:f b y with
     | lt=>exact lt_trans' hQ hlt hby
     | eq =>
       have:=he b y (hl b (by simp)) (hl y (by simp[hy'])) hby
       subst this; exact hlt
     | gt=>exact absurd hby h2
theorem compC_setC {D:α→Prop} (hs:∀ a b,f b a=(f a b).swap) (hQ:∀ a b d,Q3 (f a b) (f b d) (f a d)) (he:∀ a b,D a→D b→f a b=.eq→a=b) (l l' : List α) (hl:∀ x∈l,D x) (hp:l'.Perm l) (h:l'.Pairwise (fun a b=>f a b≠.gt)) :
 compC (fun a b=>f a b == .eq) l'=setC f l:=by
 obtain⟨k1,k2,_⟩:=compC_sorted hs hQ he l' (fun x hx=>hl x (hp.mem_iff.1 hx)) h
 obtain⟨g1,g2⟩:=setC_spec hs hQ he l hl
 exact SS_ext hs k1 g1 fun x=>by rw[k2 x,g2 x]; exact hp.mem_iff
end
abbrev SSs (l:List S):Prop:=SS sCmp l
theorem mem_mergeS:∀ (l m:List S) (y:S),y∈mergeS l m↔y∈l∨y∈m
 | [],b,y=>by simp[mergeS]
 | a::l,[],y=>by simp[mergeS]
 | a::l,b::m,y=>by
   unfold mergeS
   split
   ·rw[List.mem_cons,mem_mergeS l (b::m) y]; simp[or_assoc]
   ·split
    ·rw[List.mem_cons,mem_mergeS (a::l) m y]; simp only[List.mem_cons]; exact⟨fun h=>by rcases h with h|(h|h)|h<;>simp[h],fun h=>by rcases h with (h|h)|h|h<;>simp[h]⟩
    ·rename_i h1 h2
     have e:a=b:=by
      rcases sLt_tri a b with h|h|h
      ·exact absurd h h1
      ·exact h
      ·exact absurd h h2
     subst e
     rw[List.mem_cons,mem_mergeS l m y]; simp only[List.mem_cons]; exact⟨fun h=>by rcases h with h|h|h<;>simp[h],fun h=>by rcases h with (h|h)|h|h<;>simp[h]⟩
termination_by l m=>l.length+m.length
theorem SS_mergeS:∀ (l m:List S),SSs l→SSs m→SSs (mergeS l m)
 | [],b,_,h=>by simpa[mergeS] using h
 | a::l,[],h,_=>by simpa[mergeS] using h
 | a::l,b::m,h1,h2=>by
   unfold mergeS
   unfold SSs SS at h1 h2 ⊢
   have h1':=List.pairwise_cons.1 h1
   have h2':=List.pairwise_cons.1 h2
   split
   ·rename_i hlt
    rw[List.pairwise_cons]
    refine⟨fun y hy=>?_,SS_mergeS l (b::m) h1'.2 h2⟩
    rcases (mem_mergeS l (b::m) y).1 hy with hy|hy
    ·exact h1'.1 y hy
    ·rcases List.mem_cons.1 hy with rfl|hy
     ·exact sCmp_lt.2 hlt
     ·exact lt_trans' sCmp_Q (sCmp_lt.2 hlt) (h2'.1 y hy)
   ·split
    ·rename_i hlt
     rw[List.pairwise_cons]
     refine⟨fun y hy=>?_,SS_mergeS (a::l) m h1 h2'.2⟩
     rcases (mem_mergeS (a::l) m y).1 hy with hy|hy
     ·rcases List.mem_cons.1 hy with rfl|hy
      ·exact sCmp_lt.2 hlt
      ·exact lt_trans' sCmp_Q (sCmp_lt.2 hlt) (h1'.1 y hy)
     ·exact h2'.1 y hy
    ·rename_i k1 k2
     have e:a=b:=by
      rcases sLt_tri a b with h|h|h
      ·exact absurd h k1
      ·exact h
      ·exact absurd h k2
     subst e
     rw[List.pairwise_cons]
     refine⟨fun y hy=>?_,SS_mergeS l m h1'.2 h2'.2⟩
     rcases (mem_mergeS l m y).1 hy with hy|hy
     ·exact h1'.1 y hy
     ·exact h2'.1 y hy
termination_by l m=>l.length+m.length
theorem setS_spec (l:List S):SSs (setC sCmp l)∧∀ y,y∈setC sCmp l↔y∈l :=
 setC_spec (D:=fun _=>True) sCmp_swap sCmp_Q (fun _ _ _ _ h=>sCmp_eq.1 h) l (fun _ _=>trivial)
theorem setS_ext {l:List S} {m:List S} (h:SSs m) (hm:∀ y,y∈m↔y∈l):m=setC sCmp l :=
 SS_ext sCmp_swap h (setS_spec l).1 fun x=>by rw[hm x,(setS_spec l).2 x]
theorem riseB_SS:∀ {l:List S},riseB l=true→SSs l∧∀ s∈l,utfB s=true
 | [],_=>by simp[SS]
 | [a],h=>by simp[riseB] at h; simp[SS,h]
 | a::b::l,h=>by
   simp only[riseB,Bool.and_eq_true] at h
   obtain⟨k1,k2⟩:=riseB_SS h.2
   refine⟨?_,fun s hs=>?_⟩
   ·have k1':=k1
    unfold SSs SS at k1 ⊢
    rw[List.pairwise_cons] at k1 ⊢
    refine⟨fun y hy=>?_,k1'⟩
    rcases List.mem_cons.1 hy with rfl|hy
    ·exact sCmp_lt.2 h.1.2
    ·exact lt_trans' sCmp_Q (sCmp_lt.2 h.1.2) (k1.1 y hy)
   ·rcases List.mem_cons.1 hs with rfl|hs
    ·exact h.1.1
    ·exact k2 s hs
theorem SS_riseB:∀ {l:List S},SSs l→(∀ s∈l,utfB s=true)→riseB l=true
 | [],_,_=>rfl
 | [a],_,h=>by simpa[riseB] using h
 | a::b::l,h,hu=>by
   unfold SSs SS at h
   have h':=List.pairwise_cons.1 h
   simp only[riseB,Bool.and_eq_true]
   exact⟨⟨hu a (by simp),sCmp_lt.1 (h'.1 b (by simp))⟩,SS_riseB h'.2 (fun s hs=>hu s (by simp[hs]))⟩
theorem riseB_mergeS {l m:List S} (h:riseB l=true) (k:riseB m=true):riseB (mergeS l m)=true:=by
 obtain⟨h1,h2⟩:=riseB_SS h
 obtain⟨k1,k2⟩:=riseB_SS k
 exact SS_riseB (SS_mergeS l m h1 k1) fun s hs=>((mem_mergeS l m s).1 hs).elim (h2 s) (k2 s)
theorem cmp_alone (a b:Ob):cmpT (aloneT a) (aloneT b)=cmpO a b:=by
 simp[aloneT,cmpT,bCmp,lexC,cmpAs,cmpOs,Ordering.then]
 cases cmpO a b<;>rfl
theorem putO_eq (o:Ob):∀ l:List Ob,putO o l=insC cmpO o l
 | []=>rfl
 | x::l=>by
   simp only[putO,insC,cmp_alone,putO_eq o l]
   cases cmpO o x<;>rfl
theorem rowO_eq (l:List Ob):rowO l=setC cmpO l:=by
 unfold rowO setC
 congr 1
 funext acc o
 exact putO_eq o acc
def maxOkO (o:Ob):Prop:=maxOkTs o.fields∧maxOkT o.rest
theorem cmpO_eq {a b:Ob} (ha:maxOkO a) (hb:maxOkO b) (h:cmpO a b=.eq):a=b:=by
 obtain⟨n1,f1,m1,r1⟩:=a
 obtain⟨n2,f2,m2,r2⟩:=b
 have:=cmpOs_eq' [.mk n1 f1 m1 r1] [.mk n2 f2 m2 r2] ⟨ha,trivial⟩ ⟨hb,trivial⟩ (by simp only[cmpOs,h]; rfl)
 simpa using this
theorem rowO_sorted (l l' : List Ob) (hl:∀ x∈l,maxOkO x) (hp:l'.Perm l) (h:l'.Pairwise (fun a b=>cmpO a b≠.gt)):compC (fun a b=>cmpO a b == .eq) l'=rowO l:=by
 rw[rowO_eq]
 exact compC_setC (D:=maxOkO) cmpO_swap cmpO_Q (fun _ _=>cmpO_eq) l l' hl hp h
end Go.Tidy
namespace Go.Tidy
section
variable {α:Type}
def swapN (l:List α) (a b:Nat):List α:=match l[a]?,l[b]? with
 | some x,some y=>(l.set a y).set b x
 | _,_=>l
theorem swapN_len (l:List α) (a b:Nat):(swapN l a b).length=l.length:=by
 unfold swapN; split<;>simp
def swapsN (l:List α) (a b:Nat):Nat→List α
 | 0=>l
 | n+1=>swapN (swapsN l a b n) (a+n) (b+n)
theorem swapsN_len (l:List α) (a b:Nat):∀ n,(swapsN l a b n).length=l.length
 | 0=>rfl
 | n+1=>by rw[swapsN,swapN_len,swapsN_len l a b n]
theorem swapN_at (P Q R:List α) (u v:α) {a b:Nat} (ha:a=P.length) (hb:b=P.length+1+Q.length):swapN (P++u::(Q++v::R)) a b=P++v::(Q++u::R):=by
 subst ha; subst hb
 have e1:(P++u::(Q++v::R))[P.length]? = some u:=by simp
 have e2:(P++u::(Q++v::R))[P.length+1+Q.length]? = some v:=by
  rw[List.getElem?_append_right (by omega),show P.length+1+Q.length-P.length=Q.length+1 by omega]
  simp
 unfold swapN
 rw[e1,e2]
 simp only
 rw[List.set_append_right _ _ (Nat.le_refl _),Nat.sub_self,List.set_cons_zero,List.set_append_right _ _ (by omega),show P.length+1+Q.length-P.length=Q.length+1 by omega,List.set_cons_succ,List.set_append_right _ _ (Nat.le_refl _),Nat.sub_self,List.set_cons_zero]
theorem swapN_sym (P Q R:List α) (u v:α) {a b:Nat} (ha:a=P.length) (hb:b=P.length+1+Q.length):swapN (P++u::(Q++v::R)) b a=P++v::(Q++u::R):=by
 subst ha; subst hb
 have e1:(P++u::(Q++v::R))[P.length]? = some u:=by simp
 have e2:(P++u::(Q++v::R))[P.length+1+Q.length]? = some v:=by
  rw[List.getElem?_append_right (by omega),show P.length+1+Q.length-P.length=Q.length+1 by omega]
  simp
 unfold swapN
 rw[e1,e2]
 simp only
 rw[List.set_append_right _ _ (by omega),show P.length+1+Q.length-P.length=Q.length+1 by omega,List.set_cons_succ,List.set_append_right _ _ (Nat.le_refl _),Nat.sub_self,List.set_cons_zero,List.set_append_right _ _ (Nat.le_refl _),Nat.sub_self,List.set_cons_zero]
theorem cons_take {l:List α} {k:Nat} (h:k<l.length):l.drop k=l[k]::l.drop (k+1):=List.drop_eq_getElem_cons h
theorem swapsN_split (p x z y q:List α) {n a b:Nat} (hx:x.length=n) (hy:y.length=n) (ha:a=p.length) (hb:b=p.length+n+z.length) :
 swapsN (p++x++z++y++q) a b n=p++y++z++x++q:=by
 have key:∀ k,k≤n→swapsN (p++x++z++y++q) a b k=p++(y.take k++x.drop k)++z++(x.take k++y.drop k)++q:=by
  intro k
  induction k with
  | zero=>intro _; simp[swapsN]
  | succ k ih =>
    intro hk
    rw[swapsN,ih (by omega)]
    have h1:k<x.length:=by omega
    have h2:k<y.length:=by omega
    rw[cons_take h1,cons_take h2,List.take_succ_eq_append_getElem h1,List.take_succ_eq_append_getElem h2]
    have e:=swapN_at (p++y.take k) (x.drop (k+1)++z++x.take k) (y.drop (k+1)++q) x[k] y[k] (a:=a+k) (b:=b+k) (by simp; omega) (by simp; omega)
    simp only[List.append_assoc,List.cons_append,List.nil_append,List.singleton_append] at e ⊢
    exact e
 rw[key n (Nat.le_refl _)]
 simp[← hx,List.take_of_length_le (show y.length≤x.length by omega),List.drop_of_length_le (show y.length≤x.length by omega)]
variable {f:α→α→Ordering}
def Srt (f:α→α→Ordering) (l:List α):Prop:=l.Pairwise fun a b=>f a b≠.gt
def Tot (f:α→α→Ordering):Prop:=(∀ a b,f b a=(f a b).swap)∧∀ a b d,Q3 (f a b) (f b d) (f a d)
theorem Tot.trans (h:Tot f) {a b d:α} (h1:f a b≠.gt) (h2:f b d≠.gt):f a d≠.gt:=by
 have:=(h.2 a b d).1
 have e:∀ o:Ordering,o≠.gt↔o.isLE=true:=by intro o; cases o<;>simp
 rw[e] at h1 h2 ⊢
 exact this h1 h2
theorem Tot.lt_le (h:Tot f) {a b:α} (h1:f a b=.lt):f a b≠.gt:=by rw[h1]; decide
theorem Tot.nlt (h:Tot f) {a b:α} (h1:f a b≠.lt):f b a≠.gt:=by
 rw[h.1 a b]; cases e:f a b<;>simp_all
theorem srt_app (f:α→α→Ordering) {l m:List α}:Srt f (l++m)↔Srt f l∧Srt f m∧∀ a∈l,∀ b∈m,f a b≠.gt:=List.pairwise_append
theorem srt_nil:Srt f []:=List.Pairwise.nil
theorem srt_one (a:α):Srt f [a]:=List.pairwise_singleton _ _
theorem srt_cons {a:α} {l:List α}:Srt f (a::l)↔(∀ b∈l,f a b≠.gt)∧Srt f l:=List.pairwise_cons
theorem srt_take {l:List α} (h:Srt f l) (k:Nat):Srt f (l.take k):=List.Pairwise.sublist (List.take_sublist _ _) h
theorem srt_drop {l:List α} (h:Srt f l) (k:Nat):Srt f (l.drop k):=List.Pairwise.sublist (List.drop_sublist _ _) h
theorem srt_ins {z1 z2:List α} {v:α} (h:Tot f) (hz:Srt f (z1++z2)) (h1:∀ x∈z1.getLast?,f x v≠.gt) (h2:∀ x∈z2,f v x≠.gt):Srt f (z1++v::z2):=by
 obtain⟨a,b,c⟩:=(srt_app f).1 hz
 refine (srt_app f).2 ⟨a,srt_cons.2 ⟨h2,b⟩,fun x hx y hy=>?_⟩
 rcases List.mem_cons.1 hy with rfl|hy
 ·cases hl:z1.getLast? with
  | none=>rw[List.getLast?_eq_none_iff] at hl; subst hl; simp at hx
  | some u =>
    rw[hl] at h1
    have hu:=h1 u rfl
    obtain⟨w,rfl⟩:=List.getLast?_eq_some_iff.1 hl
    rcases List.mem_append.1 hx with hx|hx
    ·obtain⟨_,_,d⟩:=(srt_app f).1 a
     exact h.trans (d x hx u (by simp)) hu
    ·rw[List.mem_singleton.1 hx]; exact hu
 ·exact c x hx y hy
theorem srt_cut_l {y:List α} {u:α} {i:Nat} (h:Tot f) (hy:Srt f y) (hi:i≤y.length) (h1:∀ k (hk:k<y.length),k+1=i→f y[k] u=.lt) (h2:∀ (hk:i<y.length),f y[i] u≠.lt) :
 Srt f (y.take i++u::y.drop i):=by
 refine srt_ins h (by rw[List.take_append_drop]; exact hy) (fun x hx=>?_) (fun x hx=>?_)
 ·cases i with
  | zero=>simp at hx
  | succ i =>
    have e:=List.take_succ_eq_append_getElem (l:=y) (i:=i) (by omega)
    rw[e,List.getLast?_concat] at hx
    simp only[Option.mem_def,Option.some.injEq] at hx
    subst hx
    exact h.lt_le (h1 i (by omega) rfl)
 ·rcases Nat.lt_or_ge i y.length with hlt|hge
  ·rw[cons_take hlt] at hx
   have g:=h.nlt (h2 hlt)
   have hd:=srt_drop hy i
   rw[cons_take hlt,srt_cons] at hd
   rcases List.mem_cons.1 hx with rfl|hx
   ·exact g
   ·exact h.trans g (hd.1 x hx)
  ·rw[List.drop_of_length_le hge] at hx; simp at hx
theorem srt_cut_r {y:List α} {u:α} {i:Nat} (h:Tot f) (hy:Srt f y) (hi:i≤y.length) (h1:∀ k (hk:k<y.length),k+1=i→f u y[k]≠.lt) (h2:∀ (hk:i<y.length),f u y[i]=.lt) :
 Srt f (y.take i++u::y.drop i):=by
 refine srt_ins h (by rw[List.take_append_drop]; exact hy) (fun x hx=>?_) (fun x hx=>?_)
 ·cases i with
  | zero=>simp at hx
  | succ i =>
    have e:=List.take_succ_eq_append_getElem (l:=y) (i:=i) (by omega)
    rw[e,List.getLast?_concat] at hx
    simp only[Option.mem_def,Option.some.injEq] at hx
    subst hx
    exact h.nlt (h1 i (by omega) rfl)
 ·rcases Nat.lt_or_ge i y.length with hlt|hge
  ·rw[cons_take hlt] at hx
   have g:=h.lt_le (h2 hlt)
   have hd:=srt_drop hy i
   rw[cons_take hlt,srt_cons] at hd
   rcases List.mem_cons.1 hx with rfl|hx
   ·exact g
   ·exact h.trans g (hd.1 x hx)
  ·rw[List.drop_of_length_le hge] at hx; simp at hx
theorem srt_cross {x y:List α} {i j:Nat} (h:Tot f) (hx:Srt f x) (hy:Srt f y) (hi:i≤x.length) (hj:j≤y.length)
 (h1:∀ k (hk:k<x.length) (hj' : j<y.length),k+1=i→f y[j] x[k]≠.lt) (h2:∀ k (hk:k<y.length) (hi' : i<x.length),k+1=j→f y[k] x[i]=.lt) :
 ∀ a∈x.take i++y.take j,∀ b∈x.drop i++y.drop j,f a b≠.gt:=by
 have hxs:=(srt_app f).1 (show Srt f (x.take i++x.drop i) by rw[List.take_append_drop]; exact hx)
 have hys:=(srt_app f).1 (show Srt f (y.take j++y.drop j) by rw[List.take_append_drop]; exact hy)
 intro a ha0 b hb0
 rcases List.mem_append.1 ha0 with ha|ha<;>rcases List.mem_append.1 hb0 with hb|hb<;>clear ha0 hb0
 ·exact hxs.2.2 a ha b hb
 ·
   have hjl:j<y.length:=by
    rcases Nat.lt_or_ge j y.length with g|g
    ·exact g
    ·rw[List.drop_of_length_le g] at hb; simp at hb
   obtain⟨i',rfl⟩ : ∃ i',i=i'+1:=by
    cases i with
    | zero=>simp at ha
    | succ i'=>exact⟨i',rfl⟩
   have g:=h.nlt (h1 i' (by omega) hjl rfl)
   have g1:f a x[i']≠.gt:=by
    rw[List.take_succ_eq_append_getElem (by omega)] at ha
    rcases List.mem_append.1 ha with ha|ha
    ·have:=hxs.1
     rw[List.take_succ_eq_append_getElem (by omega)] at this
     exact ((srt_app f).1 this).2.2 a ha _ (by simp)
    ·rw[List.mem_singleton.1 ha]
     rw[self_eq h.1]; decide
   have g2:f y[j] b≠.gt:=by
    have hb' : b∈y[j]::y.drop (j+1):=by rw[← cons_take hjl]; exact hb
    have hd:=hys.2.1
    rw[cons_take hjl,srt_cons] at hd
    rcases List.mem_cons.1 hb' with rfl|hb'
    ·rw[self_eq h.1]; decide
    ·exact hd.1 b hb'
   exact h.trans (h.trans g1 g) g2
 ·have hil:i<x.length:=by
     rcases Nat.lt_or_ge i x.length with g|g
     ·exact g
     ·rw[List.drop_of_length_le g] at hb; simp at hb
  obtain⟨j',rfl⟩ : ∃ j',j=j'+1:=by
   cases j with
   | zero=>simp at ha
   | succ j'=>exact⟨j',rfl⟩
  have g:=h.lt_le (h2 j' (by omega) hil rfl)
  have g1:f a y[j']≠.gt:=by
   rw[List.take_succ_eq_append_getElem (by omega)] at ha
   rcases List.mem_append.1 ha with ha|ha
   ·have:=hys.1
    rw[List.take_succ_eq_append_getElem (by omega)] at this
    exact ((srt_app f).1 this).2.2 a ha _ (by simp)
   ·rw[List.mem_singleton.1 ha]
    rw[self_eq h.1]; decide
  have g2:f x[i] b≠.gt:=by
   have hb' : b∈x[i]::x.drop (i+1):=by rw[← cons_take hil]; exact hb
   have hd:=hxs.2.1
   rw[cons_take hil,srt_cons] at hd
   rcases List.mem_cons.1 hb' with rfl|hb'
   ·rw[self_eq h.1]; decide
   ·exact hd.1 b hb'
  exact h.trans (h.trans g1 g) g2
 ·exact hys.2.2 a ha b hb
theorem srt_both {z1 z2 l m:List α} (h1:Srt f z1) (h2:Srt f z2) (p1:z1.Perm l) (p2:z2.Perm m) (hc:∀ a∈l,∀ b∈m,f a b≠.gt):Srt f (z1++z2) :=
 (srt_app f).2 ⟨h1,h2,fun a ha b hb=>hc a (p1.mem_iff.1 ha) b (p2.mem_iff.1 hb)⟩
end
end Go.Tidy
namespace Go.Tidy
section
variable {α:Type} {e:α→α→Bool}
def keepC (e:α→α→Bool):α→List α→List α
 | _,[]=>[]
 | p,x::l=>if e x p then keepC e x l else x::keepC e x l
theorem compC_keep (a:α) (l:List α):compC e (a::l)=a::keepC e a l:=by
 induction l generalizing a with
 | nil=>rfl
 | cons b l ih =>
   simp only[compC]
   rw[ih b]
   split
   ·rename_i h; simp[keepC,h]
   ·rename_i h; simp[keepC,h]
theorem keepC_snoc (x:α):∀ (l:List α) (p:α),keepC e p (l++[x])=keepC e p l++(if e x ((p::l).getLast (by simp)) then [] else [x])
 | [],p=>by by_cases h:e x p=true<;>simp[keepC,h]
 | y::l,p=>by
   have ih:=keepC_snoc x l y
   have hl:(p::y::l).getLast (by simp)=(y::l).getLast (by simp):=List.getLast_cons (by simp)
   rw[hl]
   by_cases h:e y p=true
   ·simp only[List.cons_append,keepC,h,if_true]
    exact ih
   ·simp only[List.cons_append,keepC,h,if_false,Bool.false_eq_true]
    exact congrArg (y::·) ih
theorem compC_take {l:List α} {j:Nat} (h0:0<j) (hj:j<l.length):compC e (l.take (j+1))=compC e (l.take j)++(if e l[j] l[j-1] then [] else [l[j]]):=by
 cases l with
 | nil=>simp at hj
 | cons a l =>
   obtain⟨i,rfl⟩ : ∃ i,j=i+1:=⟨j-1,by omega⟩
   simp only[List.length_cons] at hj
   have hi:i<l.length:=by omega
   rw[List.take_succ_cons,List.take_succ_cons,compC_keep,compC_keep,List.take_succ_eq_append_getElem hi,keepC_snoc,List.cons_append]
   congr 3
   ·have hlast:(a::l.take i).getLast (by simp)=(a::l)[i]'(by simp; omega):=by
       rw[List.getLast_eq_getElem]
       cases i with
       | zero=>simp
       | succ i=>simp[List.length_take,Nat.min_eq_left (Nat.le_of_lt hi)]
    rw[hlast]
    simp
theorem compC_all {l:List α} (h:∀ j (hj:j<l.length),0<j→e l[j] l[j-1]=false):compC e l=l:=by
 have key:∀ k,k≤l.length→compC e (l.take k)=l.take k:=by
  intro k
  induction k with
  | zero=>intro _; simp[compC]
  | succ k ih =>
    intro hk
    rcases Nat.eq_zero_or_pos k with rfl|h0
    ·cases l with
     | nil=>simp at hk
     | cons a l=>simp[compC]
    ·rw[compC_take h0 (by omega),ih (by omega),h k (by omega) h0]
     simp only[Bool.false_eq_true,if_false]
     exact (List.take_succ_eq_append_getElem (by omega)).symm
 simpa using key l.length (Nat.le_refl _)
end
theorem outerO_cons (kept:List Ob) (o:Ob) (l:List Ob):outerO kept (o::l)=if kept.any (belowO o)||l.any (belowO o) then outerO kept l else outerO (kept++[o]) l:=by rw[outerO]
theorem outerO_nil (kept:List Ob):outerO kept []=kept:=by rw[outerO]
end Go.Tidy
namespace Go.Proofs.YtfilonnphgnplaaGreatDoor.Pv
open Go Go.Tidy
theorem bytesLess_lt:∀ a b:List UInt8,Op.bytesLess a b=decide (a<b)
 | [],[]=>by simp[Op.bytesLess]
 | [],_::_=>by simp[Op.bytesLess]
 | _::_,[]=>by simp[Op.bytesLess]
 | x::a,y::b=>by
   simp only[Op.bytesLess,bytesLess_lt a b,List.cons_lt_cons_iff]
   by_cases h1:x<y<;>by_cases h2:x=y<;>simp[h1,h2]
theorem le_strict {a b:List UInt8} (h:a≤b) (hne:a≠b):a<b:=by
 rcases Classical.em (a<b) with k|k
 ·exact k
 ·exact absurd (List.le_antisymm h (List.not_lt.1 k)) hne
theorem compactUp_spec (d:Array (List UInt8)) (hs:∀ i j,i<j→j<d.size→d[i]! ≤ d[j]!):∀ m,m≤d.size →
 (Go.Lib.compactUpTo d m).Pairwise (· < ·)∧(∀ x,x∈Go.Lib.compactUpTo d m↔∃ j,j<m∧d[j]! = x):=by
 intro m
 induction m with
 | zero=>intro _; exact⟨by simp[Go.Lib.compactUpTo],fun x=>by simp[Go.Lib.compactUpTo]⟩
 | succ m ih =>
   intro hm
   obtain⟨h1,h2⟩:=ih (by omega)
   rw[Go.Lib.compactUpTo_succ]
   by_cases hk:Go.Lib.keeps d m=true
   ·rw[if_pos hk]
    refine⟨List.pairwise_append.2 ⟨h1,by simp,fun a ha b hb=>?_⟩,fun x=>?_⟩
    ·obtain rfl:b=d[m]! := by simpa using hb
     obtain⟨j,hj,rfl⟩:=(h2 a).1 ha
     have hm0:m≠0:=by omega
     have hne:d[m]!≠d[m-1]! := by
      intro e
      rw[Go.Lib.keeps_neg (by omega) e] at hk; cases hk
     have k1:d[m-1]! < d[m]! := le_strict (hs (m-1) m (by omega) (by omega)) (fun e=>hne e.symm)
     by_cases e:j=m-1
     ·rw[e]; exact k1
     ·exact List.lt_of_le_of_lt (hs j (m-1) (by omega) (by omega)) k1
    ·rw[List.mem_append,h2 x]
     constructor
     ·rintro (⟨j,hj,e⟩|h)
      ·exact⟨j,by omega,e⟩
      ·exact⟨m,by omega,by simpa using (List.mem_singleton.1 h).symm⟩
     ·rintro⟨j,hj,e⟩
      by_cases ej:j=m
      ·subst ej; exact .inr (by simp[e])
      ·exact .inl ⟨j,by omega,e⟩
   ·have hk' : Go.Lib.keeps d m=false:=by simpa using hk
    rw[if_neg hk,List.append_nil]
    refine⟨h1,fun x=>?_⟩
    rw[h2 x]
    constructor
    ·rintro⟨j,hj,e⟩; exact⟨j,by omega,e⟩
    ·rintro⟨j,hj,e⟩
     by_cases ej:j=m
     ·subst ej
      have hj0:j≠0:=by
       intro e0; subst e0
       rw[Go.Lib.keeps_lt_one d 0 (by omega)] at hk'; cases hk'
      have hd:d[j]! = d[j-1]! := by
       rcases Classical.em (d[j]! = d[j-1]!) with k|k
       ·exact k
       ·rw[Go.Lib.keeps_pos k] at hk'; cases hk'
      exact⟨j-1,by omega,by rw[← hd]; exact e⟩
     ·exact⟨j,by omega,e⟩
theorem compact_sort (l:List S):compactS (sortS l)=setC sCmp l:=by
 have hmap:((sortS l).map fun s=>s.data.toList)=(l.map fun s=>s.data.toList).mergeSort fun x y=>decide (x≤y):=by
  unfold sortS
  rw[List.map_map]
  have:((fun s:ByteArray=>s.data.toList)∘fun x:List UInt8=>(⟨x.toArray⟩ : ByteArray))=id:=by funext x; simp
  rw[this,List.map_id]
 generalize hz:((l.map fun s=>s.data.toList).mergeSort fun x y=>decide (x≤y))=z at *
 have hp:z.Pairwise (fun a b=>a≤b):=by
  rw[← hz]
  have:=List.pairwise_mergeSort (le:=fun x y:List UInt8=>decide (x≤y)) (fun a b c h k=>by simp only[decide_eq_true_eq] at *; exact List.le_trans h k) (fun a b=>by simp only[Bool.or_eq_true,decide_eq_true_eq]; exact List.le_total a b) (l.map fun s=>s.data.toList)
  exact this.imp (by simp)
 obtain⟨h1,h2⟩:=compactUp_spec z.toArray (fun i j hij hj=>by
  have hj' : j<z.length:=by simpa using hj
  rw[getElem!_pos _ i (by simp; omega),getElem!_pos _ j hj]
  exact List.pairwise_iff_getElem.1 hp i j (by omega) hj' hij) z.length (by simp)
 refine setS_ext ?_ fun y=>?_
 ·unfold compactS Go.Lib.compact
  rw[hmap]
  refine List.pairwise_map.2 (h1.imp fun {a b} h=>?_)
  rw[sCmp_lt]
  show Op.bytesLess _ _=true
  rw[bytesLess_lt]
  simpa using h
 ·unfold compactS Go.Lib.compact
  rw[hmap,List.mem_map]
  constructor
  ·rintro⟨x,hx,rfl⟩
   obtain⟨j,hj,e⟩:=(h2 x).1 hx
   rw[getElem!_pos _ j (by simpa using hj)] at e
   have hm:x∈z:=by rw[← e]; simp
   rw[← hz,List.mem_mergeSort] at hm
   obtain⟨s,hs,rfl⟩:=List.mem_map.1 hm
   simpa using hs
  ·intro hy
   have hm:y.data.toList∈z:=by
    rw[← hz,List.mem_mergeSort]; exact List.mem_map.2 ⟨y,hy,rfl⟩
   obtain⟨j,hj,e⟩:=List.getElem_of_mem hm
   refine⟨y.data.toList,(h2 _).2 ⟨j,hj,?_⟩,by simp⟩
   rw[getElem!_pos _ j (by simpa using hj)]
   simpa using e
end Go.Proofs.YtfilonnphgnplaaGreatDoor.Pv
namespace Go.Tidy
open Go
mutual
def nmT (n:Nat):Ty→Bool
 | .mk _ _ _ _ _ _ _ as os=>nmAs n as&&nmOs n os
def nmAs (n:Nat):List Arr→Bool
 | []=>true
 | .mk t _ _::l=>nmT n t&&nmAs n l
def nmOs (n:Nat):List Ob→Bool
 | []=>true
 | .mk ns fs _ r::l=>decide (ns.length≤n)&&nmTs n fs&&nmT n r&&nmOs n l
def nmTs (n:Nat):List Ty→Bool
 | []=>true
 | t::l=>nmT n t&&nmTs n l
end
theorem nmAs_mem {n:Nat} {l:List Arr} (h:nmAs n l=true) {a:Arr} (ha:a∈l):nmT n a.item=true:=by
 induction l with
 | nil=>simp at ha
 | cons b l ih =>
   obtain⟨t,lo,hi⟩:=b
   simp only[nmAs,Bool.and_eq_true] at h
   rcases List.mem_cons.1 ha with rfl|ha
   ·exact h.1
   ·exact ih h.2 ha
theorem nmTs_mem {n:Nat} {l:List Ty} (h:nmTs n l=true) {a:Ty} (ha:a∈l):nmT n a=true:=by
 induction l with
 | nil=>simp at ha
 | cons b l ih =>
   simp only[nmTs,Bool.and_eq_true] at h
   rcases List.mem_cons.1 ha with rfl|ha
   ·exact h.1
   ·exact ih h.2 ha
theorem nmOs_mem {n:Nat} {l:List Ob} (h:nmOs n l=true) {o:Ob} (ho:o∈l):o.names.length≤n∧(∀ t∈o.fields,nmT n t=true)∧nmT n o.rest=true:=by
 induction l with
 | nil=>simp at ho
 | cons b l ih =>
   obtain⟨ns,fs,ms,r⟩:=b
   simp only[nmOs,Bool.and_eq_true,decide_eq_true_eq] at h
   rcases List.mem_cons.1 ho with rfl|ho
   ·exact⟨h.1.1.1,fun t ht=>nmTs_mem h.1.1.2 ht,h.1.2⟩
   ·exact ih h.2 ho
theorem nmT_def {n:Nat} (t:Ty):nmT n t=(nmAs n t.arrays&&nmOs n t.objects):=by cases t; rfl
theorem formedA_spec {a:Arr} (h:formedA a=true):0≤a.min∧-1≤a.max∧(a.max<0∨a.min≤a.max)∧formedT a.item=true∧(never a.item=true↔a.max=0):=by
 obtain⟨t,lo,hi⟩:=a
 simp only[formedA,Bool.and_eq_true,Bool.or_eq_true,decide_eq_true_eq,beq_iff_eq] at h
 refine⟨h.1.1.1.1,h.1.1.1.2,h.1.1.2,h.1.2,?_⟩
 show never t=true↔hi=0
 rw[h.2,decide_eq_true_eq]
theorem formedO_spec {o:Ob} (h:formedO o=true):o.names.length=o.fields.length∧o.names.length=o.must.length∧riseB o.names=true∧formedT o.rest=true∧(∀ f∈o.fields,formedT f=true)∧∀ p∈o.fields.zip o.must,p.2=true→never p.1=false:=by
 obtain⟨ns,fs,ms,r⟩:=o
 simp only[formedO,Bool.and_eq_true,decide_eq_true_eq,formedTs_all,List.all_eq_true,Bool.or_eq_true,Bool.not_eq_true'] at h
 refine⟨h.1.1.1.1.1,h.1.1.1.1.2,h.1.1.1.2,h.1.1.2,h.1.2,fun p hp hm=>?_⟩
 rcases h.2 p hp with h|h
 ·rw[hm] at h; cases h
 ·exact h
theorem formedT_spec {t:Ty} (h:formedT t=true):(t.all=true→bare t=true)∧riseB t.texts=true∧(t.any=true→t.texts=[])∧t.nums.length≤1∧(∀ s∈t.nums,spanB s=true)∧t.arrays.length≤1∧(∀ a∈t.arrays,formedA a=true)∧∀ o∈t.objects,formedO o=true:=by
 obtain⟨a,b,c,d,ns,e,ts,as,os⟩:=t
 simp only[formedT,Bool.and_eq_true,Bool.or_eq_true,Bool.not_eq_true',decide_eq_true_eq,formedAs_all,formedOs_all,List.all_eq_true,List.isEmpty_iff] at h
 refine⟨fun ha=>?_,h.1.1.1.1.1.1.2,fun he=>?_,h.1.1.1.1.2,h.1.1.1.2,h.1.1.2,h.1.2,h.2⟩
 ·rcases h.1.1.1.1.1.1.1 with h|h
  ·exact absurd ha (by show ¬ a=true; rw[h]; simp)
  ·exact h
 ·rcases h.1.1.1.1.1.2 with h|h
  ·exact absurd he (by show ¬ e=true; rw[h]; simp)
  ·exact h
end Go.Tidy
namespace Go.Tidy
open Go
theorem formedA_intro {a:Arr} (h1:0≤a.min) (h2 : -1≤a.max) (h3:a.max<0∨a.min≤a.max) (h4:formedT a.item=true) (h5:never a.item=true↔a.max=0):formedA a=true:=by
 obtain⟨t,lo,hi⟩:=a
 simp only[Arr.min,Arr.max,Arr.item] at *
 simp only[formedA,Bool.and_eq_true,Bool.or_eq_true,decide_eq_true_eq,beq_iff_eq]
 refine⟨⟨⟨⟨h1,h2⟩,h3⟩,h4⟩,?_⟩
 cases hn:never t
 ·have:¬ hi=0:=fun h=>by have:=h5.2 h; rw[hn] at this; cases this
  simp[this]
 ·simp[h5.1 hn]
theorem formedO_intro {o:Ob} (h1:o.names.length=o.fields.length) (h2:o.names.length=o.must.length) (h3:riseB o.names=true) (h4:formedT o.rest=true) (h5:∀ f∈o.fields,formedT f=true) (h6:∀ p∈o.fields.zip o.must,p.2=true→never p.1=false):formedO o=true:=by
 obtain⟨ns,fs,ms,r⟩:=o
 simp only[Ob.names,Ob.fields,Ob.must,Ob.rest] at *
 simp only[formedO,Bool.and_eq_true,decide_eq_true_eq,formedTs_all,List.all_eq_true,Bool.or_eq_true,Bool.not_eq_true']
 refine⟨⟨⟨⟨⟨h1,h2⟩,h3⟩,h4⟩,h5⟩,fun p hp=>?_⟩
 cases hm:p.2
 ·exact .inl rfl
 ·exact .inr (h6 p hp hm)
theorem formedT_intro {t:Ty} (h1:t.all=true→bare t=true) (h2:riseB t.texts=true) (h3:t.any=true→t.texts=[]) (h4:t.nums.length≤1) (h5:∀ s∈t.nums,spanB s=true) (h6:t.arrays.length≤1) (h7:∀ a∈t.arrays,formedA a=true) (h8:∀ o∈t.objects,formedO o=true):formedT t=true:=by
 obtain⟨a,b,c,d,ns,e,ts,as,os⟩:=t
 simp only[Ty.all,Ty.texts,Ty.any,Ty.nums,Ty.arrays,Ty.objects] at *
 simp only[formedT,Bool.and_eq_true,Bool.or_eq_true,Bool.not_eq_true',decide_eq_true_eq,formedAs_all,formedOs_all,List.all_eq_true,List.isEmpty_iff]
 refine⟨⟨⟨⟨⟨⟨⟨?_,h2⟩,?_⟩,h4⟩,h5⟩,h6⟩,h7⟩,h8⟩
 ·cases a
  ·exact .inl rfl
  ·exact .inr (h1 rfl)
 ·cases e
  ·exact .inl rfl
  ·exact .inr (h3 rfl)
theorem every_formed:formedT tEvery=true:=by simp[tEvery,formedT,riseB,bare,formedAs,formedOs,Ty.null,Ty.fls,Ty.tru,Ty.any,Ty.nums,Ty.texts,Ty.arrays,Ty.objects]
theorem never_formed:formedT tNever=true:=by simp[tNever,formedT,riseB,bare,formedAs,formedOs,Ty.null,Ty.fls,Ty.tru,Ty.any,Ty.nums,Ty.texts,Ty.arrays,Ty.objects]
theorem bare_eta {t:Ty} (h:bare t=true):t=.mk t.all false false false [] false [] [] []:=by
 obtain⟨a,b,c,d,ns,e,ts,as,os⟩:=t
 simp only[bare,Ty.null,Ty.fls,Ty.tru,Ty.any,Ty.nums,Ty.texts,Ty.arrays,Ty.objects,Bool.and_eq_true,Bool.not_eq_true',List.isEmpty_iff] at h
 obtain⟨⟨⟨⟨⟨⟨⟨rfl,rfl⟩,rfl⟩,rfl⟩,rfl⟩,rfl⟩,rfl⟩,rfl⟩:=h
 rfl
theorem all_every {t:Ty} (h:formedT t=true) (ha:t.all=true):t=tEvery:=by
 have:=bare_eta ((formedT_spec h).1 ha)
 rw[this,ha]; rfl
theorem mergeS_nil_l (l:List S):mergeS [] l=l:=by simp[mergeS]
theorem sumAs_nil_r (l:List Arr):sumAs l []=l:=by cases l<;>simp[sumAs]
theorem sumAs_nil_l (l:List Arr):sumAs [] l=l:=by simp[sumAs]
theorem sumT_def (x t:Ty):sumT x t=if x.all||t.all then tEvery else .mk false (x.null||t.null) (x.fls||t.fls) (x.tru||t.tru) (sumN x.nums t.nums) (x.any||t.any) (if x.any||t.any then [] else mergeS x.texts t.texts) (sumAs x.arrays t.arrays) (x.objects++t.objects):=by
 cases x; simp only[sumT]; rfl
theorem sumA_def (a b:Arr):sumA a b=.mk (sumT a.item b.item) (if b.min<a.min then b.min else a.min) (if a.max<0∨b.max<0 then -1 else if b.max > a.max then b.max else a.max):=by
 cases a; simp only[sumA]; rfl
theorem sumT_never {x:Ty} (h:formedT x=true):sumT tNever x=x:=by
 rw[sumT_def]
 cases ha:x.all
 ·obtain⟨a,b,c,d,ns,e,ts,as,os⟩:=x
  have h3:=(formedT_spec h).2.2.1
  simp only[Ty.all] at ha
  subst ha
  simp only[tNever,Ty.all,Ty.null,Ty.fls,Ty.tru,Ty.nums,Ty.any,Ty.texts,Ty.arrays,Ty.objects,Bool.or_false,Bool.false_or,Bool.false_eq_true,if_false,sumN,sumAs_nil_l,List.nil_append,mergeS_nil_l] at *
  cases e
  ·rfl
  ·rw[h3 rfl]; rfl
 ·rw[all_every h ha]; rfl
theorem never_iff {t:Ty}:never t=true↔t.all=false∧t.null=false∧t.fls=false∧t.tru=false∧t.any=false∧t.nums=[]∧t.texts=[]∧t.arrays=[]∧t.objects=[]:=by
 simp only[never,bare,Bool.and_eq_true,Bool.not_eq_true',List.isEmpty_iff,and_assoc]
theorem sumN_nil {a b:List Span}:sumN a b=[]↔a=[]∧b=[]:=by cases a<;>cases b<;>simp[sumN]
theorem mergeS_nil {a b:List S}:mergeS a b=[]↔a=[]∧b=[]:=by
 cases a<;>cases b<;>simp[mergeS]
 repeat' split
 all_goals simp
theorem sumAs_nil {a b:List Arr}:sumAs a b=[]↔a=[]∧b=[]:=by cases a<;>cases b<;>simp[sumAs]
theorem never_sumT (a b:Ty):never (sumT a b)=(never a&&never b):=by
 rw[Bool.eq_iff_iff,Bool.and_eq_true,never_iff,never_iff,never_iff,sumT_def]
 cases h1:a.all<;>cases h2:b.all<;>simp[tEvery,Ty.all,sumN_nil,sumAs_nil,Ty.null,Ty.fls,Ty.tru,Ty.nums,Ty.any,Ty.texts,Ty.arrays,Ty.objects]
 rw[← h1.symm.symm,← h2] at *
 constructor
 ·rintro⟨⟨e1,e2⟩,⟨e3,e4⟩,⟨e5,e6⟩,⟨e7,e8⟩,⟨e9,e10⟩,e11,⟨e12,e13⟩,e14,e15⟩
  rw[e7,e8] at e11
  have:=mergeS_nil.1 (e11 rfl rfl)
  exact⟨⟨e1,e3,e5,e7,e9,this.1,e12,e14⟩,e2,e4,e6,e8,e10,this.2,e13,e15⟩
 ·rintro⟨⟨e1,e3,e5,e7,e9,e,e12,e14⟩,e2,e4,e6,e8,e10,e',e13,e15⟩
  exact⟨⟨e1,e2⟩,⟨e3,e4⟩,⟨e5,e6⟩,⟨e7,e8⟩,⟨e9,e10⟩,fun _ _=>mergeS_nil.2 ⟨e,e'⟩,⟨e12,e13⟩,e14,e15⟩
theorem boundB_emp:boundB ByteArray.empty=true:=by simp[boundB,sEmp]
theorem boundB_low {a b:S} (ha:boundB a=true) (hb:boundB b=true):boundB (lowS a b)=true:=by
 unfold lowS; split
 ·exact boundB_emp
 ·split
  ·exact ha
  ·exact hb
theorem boundB_high {a b:S} (ha:boundB a=true) (hb:boundB b=true):boundB (highS a b)=true:=by
 unfold highS; split
 ·exact boundB_emp
 ·split
  ·exact ha
  ·exact hb
theorem spanB_iff {s:Span}:spanB s=true↔boundB s.low=true∧boundB s.high=true∧(sEmp s.low=false→sEmp s.high=false→(numCmp s.low s.high).isLE=true):=by
 simp only[spanB,Bool.and_eq_true,Bool.or_eq_true,and_assoc]
 refine and_congr Iff.rfl (and_congr Iff.rfl ?_)
 cases sEmp s.low<;>cases sEmp s.high<;>simp
theorem isLE_swap {a b:S} (h:(numCmp a b).isLE=false):(numCmp b a).isLE=true:=by rw[numCmp_swap]; revert h; cases numCmp a b<;>simp
theorem le_trans' {a b d:S} (h:(numCmp a b).isLE=true) (k:(numCmp b d).isLE=true):(numCmp a d).isLE=true:=(numCmp_Q a b d).1 h k
theorem spanB_sum {a b:Span} (ha:spanB a=true) (hb:spanB b=true):spanB ⟨lowS a.low b.low,highS a.high b.high⟩=true:=by
 rw[spanB_iff] at *
 obtain⟨a1,a2,a3⟩:=ha
 obtain⟨b1,b2,b3⟩:=hb
 refine⟨boundB_low a1 b1,boundB_high a2 b2,fun h1 h2=>?_⟩
 simp only[] at h1 h2 ⊢
 have e0:sEmp ByteArray.empty=true:=by simp[sEmp]
 cases p1:sEmp a.low<;>cases p2:sEmp b.low<;>simp[lowS,p1,p2,e0] at h1
 cases p3:sEmp a.high<;>cases p4:sEmp b.high<;>simp[highS,p3,p4,e0] at h2
 have ka:=a3 p1 p3
 have kb:=b3 p2 p4
 simp only[lowS,highS,p1,p2,p3,p4,Bool.or_self,Bool.false_eq_true,if_false]
 cases c1:(numCmp a.low b.low).isLE<;>cases c2:(numCmp a.high b.high).isGE<;>simp only[if_true,if_false,Bool.false_eq_true]
 ·exact kb
 ·exact le_trans' (isLE_swap c1) ka
 ·exact le_trans' c1 kb
 ·exact ka
theorem formed_sumN {a b:List Span} (ha:∀ s∈a,spanB s=true) (hb:∀ s∈b,spanB s=true):∀ s∈sumN a b,spanB s=true:=by
 intro s hs
 match a,b with
 | [],b=>exact hb s hs
 | x::a,[]=>exact ha s hs
 | x::a,y::b =>
   simp only[sumN,List.mem_singleton] at hs
   subst hs
   exact spanB_sum (ha x (by simp)) (hb y (by simp))
theorem len_sumN {a b:List Span} (ha:a.length≤1) (hb:b.length≤1):(sumN a b).length≤1:=by
 match a,b with
 | [],b=>exact hb
 | x::a,[]=>exact ha
 | x::a,y::b=>simp[sumN]
mutual
theorem formed_sumT:∀ a b:Ty,formedT a=true→formedT b=true→formedT (sumT a b)=true
 | .mk a1 a2 a3 a4 a5 a6 a7 a8 a9,b,ha,hb=>by
   rw[sumT_def]
   have hA:=formedT_spec ha
   have hB:=formedT_spec hb
   split
   ·exact every_formed
   ·refine formedT_intro (fun h=>by simp[Ty.all] at h) ?_ (fun h=>?_) (len_sumN hA.2.2.2.1 hB.2.2.2.1) (formed_sumN hA.2.2.2.2.1 hB.2.2.2.2.1) ?_ (fun x hx=>?_) (fun o ho=>?_)
    ·simp only[Ty.texts_mk]
     split
     ·rfl
     ·exact riseB_mergeS hA.2.1 hB.2.1
    ·exact if_pos h
    ·exact len_sumAs a8 b.arrays hA.2.2.2.2.2.1 hB.2.2.2.2.2.1
    ·exact formed_sumAs a8 b.arrays hA.2.2.2.2.2.2.1 hB.2.2.2.2.2.2.1 x hx
    ·simp only[Ty.objects_mk,List.mem_append] at ho
     rcases ho with ho|ho
     ·exact hA.2.2.2.2.2.2.2 o ho
     ·exact hB.2.2.2.2.2.2.2 o ho
theorem len_sumAs:∀ a b:List Arr,a.length≤1→b.length≤1→(sumAs a b).length≤1
 | [],b,_,hb=>by simpa[sumAs] using hb
 | x::a,[],ha,_=>by simpa[sumAs] using ha
 | x::a,y::b,_,_=>by simp[sumAs]
theorem formed_sumAs:∀ a b:List Arr,(∀ x∈a,formedA x=true)→(∀ x∈b,formedA x=true)→∀ x∈sumAs a b,formedA x=true
 | [],b,_,hb=>by simpa[sumAs] using hb
 | x::a,[],ha,_=>by simpa[sumAs] using ha
 | .mk t lo hi::a,y::b,ha,hb=>by
   intro z hz
   simp only[sumAs,List.mem_singleton] at hz
   subst hz
   obtain⟨x1,x2,x3,x4,x5⟩:=formedA_spec (ha (.mk t lo hi) (by simp))
   obtain⟨y1,y2,y3,y4,y5⟩:=formedA_spec (hb y (by simp))
   simp only[Arr.min_mk,Arr.max_mk,Arr.item_mk] at x1 x2 x3 x4 x5
   have e:sumA (.mk t lo hi) y=.mk (sumT t y.item) (if y.min<lo then y.min else lo) (if hi<0∨y.max<0 then -1 else if y.max > hi then y.max else hi):=sumA_def _ _
   rw[e]
   refine formedA_intro ?_ ?_ ?_ (formed_sumT t _ x4 y4) ?_
   ·simp only[Arr.min_mk]; split<;>assumption
   ·simp only[Arr.max_mk]; repeat' split
    all_goals omega
   ·simp only[Arr.min_mk,Arr.max_mk]; repeat' split
    all_goals omega
   ·simp only[Arr.max_mk,Arr.item_mk]
    rw[never_sumT,Bool.and_eq_true,x5,y5]
    constructor
    ·rintro⟨h1,h2⟩
     rw[if_neg (by omega),if_neg (by omega)]; exact h1
    ·intro h
     repeat' split at h
     all_goals omega
end
theorem formed_fold (l:List Ty) (h:∀ t∈l,formedT t=true):∀ acc,formedT acc=true→formedT (l.foldl sumT acc)=true:=by
 induction l with
 | nil=>intro acc ha; exact ha
 | cons t l ih=>intro acc ha; exact ih (fun x hx=>h x (by simp[hx])) _ (formed_sumT acc t ha (h t (by simp)))
theorem formed_sumL {l:List Ty} (h:∀ t∈l,formedT t=true):formedT (sumL l)=true:=formed_fold l h _ never_formed
theorem never_fold (l:List Ty):∀ acc,never (l.foldl sumT acc)=(never acc&&l.all never):=by
 induction l with
 | nil=>intro acc; simp
 | cons t l ih=>intro acc; rw[List.foldl_cons,ih,never_sumT,List.all_cons,Bool.and_assoc]
theorem never_sumL (l:List Ty):never (sumL l)=l.all never:=by
 rw[sumL,never_fold]
 have:never tNever=true:=by simp[never,bare,tNever,Ty.all,Ty.null,Ty.fls,Ty.tru,Ty.nums,Ty.any,Ty.texts,Ty.arrays,Ty.objects]
 rw[this,Bool.true_and]
theorem sumL_two {x y:Ty} (h:formedT x=true):sumL [x,y]=sumT x y:=by show sumT (sumT tNever x) y=_; rw[sumT_never h]
theorem setS_congr {l m:List S} (h:∀ y,y∈l↔y∈m):setC sCmp l=setC sCmp m:=setS_ext (setS_spec l).1 fun y=>((setS_spec l).2 y).trans (h y)
def togetherP (l:List Ty):Ty :=
 if l.any Ty.all then tEvery else
 .mk false (l.any Ty.null) (l.any Ty.fls) (l.any Ty.tru) (l.foldl (fun a t=>sumN a t.nums) []) (l.any Ty.any) (if l.any Ty.any then [] else setC sCmp (l.flatMap Ty.texts)) (l.foldl (fun a t=>sumAs a t.arrays) []) (l.flatMap Ty.objects)
theorem fold_every (l:List Ty):l.foldl sumT tEvery=tEvery:=by
 induction l with
 | nil=>rfl
 | cons t l ih =>
   rw[List.foldl_cons]
   have:sumT tEvery t=tEvery:=by rw[sumT_def]; simp[tEvery]
   rw[this,ih]
theorem fold_sumT (l:List Ty) (h:∀ t∈l,formedT t=true):∀ acc:Ty,formedT acc=true→acc.all=false →
 l.foldl sumT acc=if l.any Ty.all then tEvery else .mk false (acc.null||l.any Ty.null) (acc.fls||l.any Ty.fls) (acc.tru||l.any Ty.tru) (l.foldl (fun a t=>sumN a t.nums) acc.nums) (acc.any||l.any Ty.any)
  (if acc.any||l.any Ty.any then [] else setC sCmp (acc.texts++l.flatMap Ty.texts)) (l.foldl (fun a t=>sumAs a t.arrays) acc.arrays) (acc.objects++l.flatMap Ty.objects):=by
 induction l with
 | nil =>
   intro acc ha h0
   have hA:=formedT_spec ha
   obtain⟨a,b,c,d,ns,e,ts,as,os⟩:=acc
   simp only[Ty.all_mk] at h0
   subst h0
   simp only[List.foldl_nil,List.any_nil,Bool.or_false,Bool.false_eq_true,if_false,List.flatMap_nil,List.append_nil,Ty.null_mk,Ty.fls_mk,Ty.tru_mk,Ty.nums_mk,Ty.any_mk,Ty.texts_mk,Ty.arrays_mk,Ty.objects_mk]
   congr 1
   cases e
   ·exact setS_ext (riseB_SS hA.2.1).1 fun _=>Iff.rfl
   ·exact hA.2.2.1 rfl
 | cons t l ih =>
   intro acc ha h0
   have ht:=h t (by simp)
   have hT:=formedT_spec ht
   have hA:=formedT_spec ha
   rw[List.foldl_cons]
   cases h1:t.all
   ·have e0:sumT acc t=.mk false (acc.null||t.null) (acc.fls||t.fls) (acc.tru||t.tru) (sumN acc.nums t.nums) (acc.any||t.any) (if acc.any||t.any then [] else mergeS acc.texts t.texts) (sumAs acc.arrays t.arrays) (acc.objects++t.objects):=by
       rw[sumT_def,h0,h1]; rfl
    rw[ih (fun x hx=>h x (by simp[hx])) (sumT acc t) (formed_sumT acc t ha ht) (by rw[e0]; rfl)]
    rw[List.any_cons,h1,Bool.false_or]
    split
    ·rfl
    ·rw[e0]
     simp only[List.any_cons,List.foldl_cons,List.flatMap_cons,Ty.null_mk,Ty.fls_mk,Ty.tru_mk,Ty.nums_mk,Ty.any_mk,Ty.texts_mk,Ty.arrays_mk,Ty.objects_mk,Bool.or_assoc,List.append_assoc]
     congr 1
     cases e1:acc.any<;>cases e2:t.any<;>cases e3:l.any Ty.any<;>simp
     refine setS_congr fun y=>?_
     simp[mem_mergeS,or_assoc]
   ·have e0:sumT acc t=tEvery:=by rw[sumT_def,h1]; simp
    rw[e0,fold_every,List.any_cons,h1]
    simp
theorem together_eq (l:List Ty) (h:∀ t∈l,formedT t=true):togetherP l=sumL l:=by
 rw[sumL,fold_sumT l h tNever never_formed rfl]
 unfold togetherP
 simp[tNever]
end Go.Tidy
namespace Go.Tidy
open Go
mutual
theorem maxOk_T:∀ t:Ty,formedT t=true→maxOkT t
 | .mk a b c d ns e ts as os,h=>by
   have hs:=formedT_spec h
   exact⟨maxOk_As as hs.2.2.2.2.2.2.1,maxOk_Os os hs.2.2.2.2.2.2.2⟩
theorem maxOk_As:∀ l:List Arr,(∀ a∈l,formedA a=true)→maxOkAs l
 | [],_=>trivial
 | .mk t lo hi::l,h=>by
   obtain⟨-,h2,-,h4,-⟩:=formedA_spec (h (.mk t lo hi) (by simp))
   exact⟨⟨h2,maxOk_T t h4⟩,maxOk_As l fun a ha=>h a (by simp[ha])⟩
theorem maxOk_Os:∀ l:List Ob,(∀ a∈l,formedO a=true)→maxOkOs l
 | [],_=>trivial
 | .mk ns fs ms r::l,h=>by
   obtain⟨-,-,-,h4,h5,-⟩:=formedO_spec (h (.mk ns fs ms r) (by simp))
   exact⟨⟨maxOk_Ts fs h5,maxOk_T r h4⟩,maxOk_Os l fun a ha=>h a (by simp[ha])⟩
theorem maxOk_Ts:∀ l:List Ty,(∀ a∈l,formedT a=true)→maxOkTs l
 | [],_=>trivial
 | t::l,h=>⟨maxOk_T t (h t (by simp)),maxOk_Ts l fun a ha=>h a (by simp[ha])⟩
end
theorem maxOk_O {o:Ob} (h:formedO o=true):maxOkO o:=by
 obtain⟨-,-,-,h4,h5,-⟩:=formedO_spec h
 exact⟨maxOk_Ts _ h5,maxOk_T _ h4⟩
theorem alone_formed {o:Ob} (h:formedO o=true):formedT (aloneT o)=true :=
 formedT_intro (by simp[aloneT]) (by simp[aloneT,riseB]) (by simp[aloneT]) (by simp[aloneT]) (by simp[aloneT]) (by simp[aloneT]) (by simp[aloneT]) (by simpa[aloneT] using h)
theorem fieldO_formed {o:Ob} (h:formedO o=true) (n:S):formedT (fieldO o n).1=true∧((fieldO o n).2=true→never (fieldO o n).1=false):=by
 obtain⟨-,-,-,h4,h5,h6⟩:=formedO_spec h
 unfold fieldO
 split
 ·rename_i p hp
  have hm:=List.mem_of_find?_eq_some hp
  obtain⟨a,b,c⟩:=p
  have h2:=(List.of_mem_zip hm).2
  exact⟨h5 _ (List.of_mem_zip h2).1,fun hc=>h6 (b,c) h2 hc⟩
 ·exact⟨h4,fun h=>by cases h⟩
theorem names_fold (l:List Ob) (h:∀ o∈l,SSs o.names):∀ acc,SSs acc→l.foldl (fun acc o=>mergeS acc o.names) acc=setC sCmp (acc++l.flatMap Ob.names):=by
 induction l with
 | nil=>intro acc ha; simpa using setS_ext ha fun _=>Iff.rfl
 | cons o l ih =>
   intro acc ha
   rw[List.foldl_cons,ih (fun x hx=>h x (by simp[hx])) _ (SS_mergeS acc o.names ha (h o (by simp)))]
   refine setS_congr fun y=>?_
   simp[mem_mergeS,or_assoc]
theorem namesL_eq {l:List Ob} (h:∀ o∈l,SSs o.names):namesL l=setC sCmp (l.flatMap Ob.names):=by
 rw[namesL,names_fold l h [] (by simp[SS])]; rfl
theorem formedO_SS {o:Ob} (h:formedO o=true):SSs o.names:=(riseB_SS (formedO_spec h).2.2.1).1
theorem namesL_rise {l:List Ob} (h:∀ o∈l,formedO o=true):riseB (namesL l)=true:=by
 rw[namesL_eq fun o ho=>formedO_SS (h o ho)]
 refine SS_riseB (setS_spec _).1 fun s hs=>?_
 have:=((setS_spec _).2 s).1 hs
 obtain⟨o,ho,hs⟩:=List.mem_flatMap.1 this
 exact (riseB_SS (formedO_spec (h o ho)).2.2.1).2 s hs
theorem mem_namesL {l:List Ob} (h:∀ o∈l,formedO o=true) {s:S}:s∈namesL l↔∃ o∈l,s∈o.names:=by
 rw[namesL_eq fun o ho=>formedO_SS (h o ho),(setS_spec _).2 s,List.mem_flatMap]
theorem zip_map2 {α β γ:Type} (f:α→β) (g:α→γ) (l:List α):(l.map f).zip (l.map g)=l.map fun x=>(f x,g x):=by
 induction l with
 | nil=>rfl
 | cons a l ih=>simp[ih]
theorem formed_oneO {l:List Ob} (h:∀ o∈l,formedO o=true) (h0:l≠[]):formedO (oneO l)=true:=by
 unfold oneO
 refine formedO_intro (by simp) (by simp) (by simpa using namesL_rise h) (show formedT (sumL (l.map Ob.rest))=true from formed_sumL fun t ht=>?_) (fun f hf=>?_) (fun p hp hm=>?_)
 ·obtain⟨o,ho,rfl⟩:=List.mem_map.1 ht
  exact (formedO_spec (h o ho)).2.2.2.1
 ·simp only[Ob.fields_mk,List.mem_map] at hf
  obtain⟨n,_,rfl⟩:=hf
  refine formed_sumL fun t ht=>?_
  obtain⟨o,ho,rfl⟩:=List.mem_map.1 ht
  exact (fieldO_formed (h o ho) n).1
 ·simp only[Ob.fields_mk,Ob.must_mk,zip_map2,List.mem_map] at hp
  obtain⟨n,_,rfl⟩:=hp
  simp only[List.all_eq_true] at hm
  rw[never_sumL]
  obtain⟨o,l',rfl⟩:=List.exists_cons_of_ne_nil h0
  rw[List.map_cons,List.all_cons,(fieldO_formed (h o (by simp)) n).2 (hm o (by simp)),Bool.false_and]
theorem SS_sublist {α:Type} {f:α→α→Ordering} {l m:List α} (h:l.Sublist m) (k:SS f m):SS f l:=List.Pairwise.sublist h k
theorem riseB_sub {l m:List S} (h:l.Sublist m) (k:riseB m=true):riseB l=true:=by
 obtain⟨k1,k2⟩:=riseB_SS k
 exact SS_riseB (SS_sublist h k1) fun s hs=>k2 s (h.subset hs)
def tripO (o:Ob):List (S × Ty × Bool):=o.names.zip (o.fields.zip o.must)
def ofTrip (l:List (S × Ty × Bool)) (r:Ty):Ob:=.mk (l.map (·.1)) (l.map (·.2.1)) (l.map (·.2.2)) r
theorem trip_names {o:Ob} (h1:o.names.length=o.fields.length) (h2:o.names.length=o.must.length):(tripO o).map (·.1)=o.names∧(tripO o).map (·.2.1)=o.fields∧(tripO o).map (·.2.2)=o.must:=by
 have e:(o.fields.zip o.must).length=o.names.length:=by simp; omega
 have a1:(tripO o).map (·.1)=o.names:=by unfold tripO; rw[List.map_fst_zip (by omega)]
 have a2:(tripO o).map (·.2)=o.fields.zip o.must:=by unfold tripO; rw[List.map_snd_zip (by omega)]
 refine⟨a1,?_,?_⟩
 ·have:(tripO o).map (·.2.1)=((tripO o).map (·.2)).map (·.1):=by simp
  rw[this,a2,List.map_fst_zip (by omega)]
 ·have:(tripO o).map (·.2.2)=((tripO o).map (·.2)).map (·.2):=by simp
  rw[this,a2,List.map_snd_zip (by omega)]
theorem formed_trip {o:Ob} (h:formedO o=true) {l:List (S × Ty × Bool)} (hl:l.Sublist (tripO o)) {r:Ty} (hr:formedT r=true):formedO (ofTrip l r)=true:=by
 obtain⟨h1,h2,h3,h4,h5,h6⟩:=formedO_spec h
 obtain⟨t1,t2,t3⟩:=trip_names h1 h2
 unfold ofTrip
 refine formedO_intro (by simp) (by simp) ?_ (by simpa using hr) (fun f hf=>?_) (fun p hp hm=>?_)
 ·have:(l.map (·.1)).Sublist ((tripO o).map (·.1)):=hl.map _
  rw[t1] at this
  exact riseB_sub this h3
 ·have:(l.map (·.2.1)).Sublist ((tripO o).map (·.2.1)):=hl.map _
  rw[t2] at this
  exact h5 f (this.subset (by simpa using hf))
 ·simp only[Ob.fields_mk,Ob.must_mk,zip_map2,List.mem_map] at hp
  obtain⟨x,hx,rfl⟩:=hp
  have:=hl.subset hx
  unfold tripO at this
  obtain⟨a,b,c⟩:=x
  exact h6 (b,c) (List.of_mem_zip this).2 hm
theorem spareO_eq (o:Ob):spareO o=ofTrip ((tripO o).filter fun p=>p.2.2||!sameT p.2.1 o.rest) o.rest:=rfl
theorem formed_spareO {o:Ob} (h:formedO o=true):formedO (spareO o)=true:=by
 rw[spareO_eq]; exact formed_trip h List.filter_sublist (formedO_spec h).2.2.2.1
theorem formed_trimO {N:Ty→Ty} (hN:∀ t,formedT t=true→formedT (N t)=true) {o:Ob} (h:formedO o=true):formedO (trimO N o)=true:=by
 unfold trimO
 have hs:=formed_spareO h
 generalize spareO o=p at *
 simp only
 split
 ·exact hs
 ·obtain⟨h1,h2,h3,h4,h5,h6⟩:=formedO_spec hs
  refine formed_spareO ?_
  have:∀ r,Ob.mk (p.names.take 12) (p.fields.take 12) (p.must.take 12) r=ofTrip ((tripO p).take 12) r:=fun r=>by
   obtain⟨t1,t2,t3⟩:=trip_names h1 h2
   unfold ofTrip
   rw[List.map_take,List.map_take,List.map_take,t1,t2,t3]
  rw[this]
  refine formed_trip hs (List.take_sublist _ _) (hN _ (formed_sumL fun t ht=>?_))
  rcases List.mem_cons.1 ht with rfl|ht
  ·exact h4
  ·exact h5 t (List.mem_of_mem_drop ht)
theorem formed_objectO {N:Ty→Ty} (hN:∀ t,formedT t=true→formedT (N t)=true) (hv:∀ t,formedT t=true→never (N t)=never t) {o:Ob} (h:formedO o=true):formedO (objectO N o)=true:=by
 obtain⟨h1,h2,h3,h4,h5,h6⟩:=formedO_spec h
 refine formed_trimO hN (formedO_intro (by simp[h1]) h2 h3 (hN _ h4) (fun f hf=>?_) (fun p hp hm=>?_))
 ·obtain⟨t,ht,rfl⟩:=List.mem_map.1 hf
  exact hN t (h5 t ht)
 ·simp only[Ob.fields_mk,Ob.must_mk] at hp
  have:(o.fields.map N).zip o.must=(o.fields.zip o.must).map fun p=>(N p.1,p.2):=by
   rw[← List.map_id o.must,List.zip_map]; simp
  rw[this] at hp
  obtain⟨x,hx,rfl⟩:=List.mem_map.1 hp
  rw[hv _ (h5 _ (List.of_mem_zip hx).1)]
  exact h6 x hx hm
theorem mem_rowO {l:List Ob} (h:∀ o∈l,formedO o=true) {o:Ob}:o∈rowO l↔o∈l:=by
 rw[rowO_eq]
 exact (setC_spec (D:=maxOkO) cmpO_swap cmpO_Q (fun _ _=>cmpO_eq) l (fun x hx=>maxOk_O (h x hx))).2 o
theorem outerO_sub:∀ (l kept:List Ob),∀ o∈outerO kept l,o∈kept∨o∈l
 | [],kept,o,h=>.inl (by simpa[outerO] using h)
 | x::l,kept,o,h=>by
   simp only[outerO] at h
   split at h
   ·exact (outerO_sub l kept o h).imp id (by simp +contextual)
   ·rcases outerO_sub l _ o h with h|h
    ·rcases List.mem_append.1 h with h|h
     ·exact .inl h
     ·exact .inr (by simp at h; simp[h])
    ·exact .inr (by simp[h])
theorem formed_objectsO {N:Ty→Ty} (hN:∀ t,formedT t=true→formedT (N t)=true) (hv:∀ t,formedT t=true→never (N t)=never t) {l:List Ob} (h:∀ o∈l,formedO o=true):∀ o∈objectsO N l,formedO o=true:=by
 have hr:∀ o∈outerO [] (rowO l),formedO o=true:=fun o ho=>by
  rcases outerO_sub _ _ o ho with h'|h'
  ·cases h'
  ·exact h o ((mem_rowO h).1 h')
 unfold objectsO
 generalize outerO [] (rowO l)=row at *
 simp only
 split
 ·exact hr
 ·rename_i hlen
  have hnew:formedO (objectO N (oneO (row.drop 3)))=true:=formed_objectO hN hv (formed_oneO (fun o ho=>hr o (List.mem_of_mem_drop ho)) (fun e=>by have:=congrArg List.length e; simp at this; omega))
  have hall:∀ o∈row.take 3++[objectO N (oneO (row.drop 3))],formedO o=true:=fun o ho=>by
   rcases List.mem_append.1 ho with ho|ho
   ·exact hr o (List.mem_of_mem_take ho)
   ·simp at ho; subst ho; exact hnew
  intro o ho
  rcases outerO_sub _ _ o ho with h'|h'
  ·cases h'
  ·exact hall o ((mem_rowO hall).1 h')
end Go.Tidy
namespace Go.Tidy
open Go
def hle (n:Nat) (o:Ob):Prop:=heightT o.rest≤n∧∀ f∈o.fields,heightT f≤n
theorem heightAs_le_iff {n:Nat}:∀ {l:List Arr},heightAs l≤n+1↔∀ a∈l,heightT a.item≤n
 | []=>by simp[heightAs]
 | .mk t lo hi::l=>by
   simp only[heightAs,List.mem_cons,forall_eq_or_imp,Arr.item_mk]
   rw[Nat.max_le,heightAs_le_iff (l:=l)]
   exact and_congr (by omega) Iff.rfl
theorem heightTs_le_iff {n:Nat}:∀ {l:List Ty},heightTs l≤n+1↔∀ a∈l,heightT a≤n
 | []=>by simp[heightTs]
 | t::l=>by
   simp only[heightTs,List.mem_cons,forall_eq_or_imp]
   rw[Nat.max_le,heightTs_le_iff (l:=l)]
   exact and_congr (by omega) Iff.rfl
theorem heightOs_le_iff {n:Nat}:∀ {l:List Ob},heightOs l≤n+1↔∀ o∈l,hle n o
 | []=>by simp[heightOs]
 | .mk ns fs ms r::l=>by
   simp only[heightOs,List.mem_cons,forall_eq_or_imp,hle,Ob.rest_mk,Ob.fields_mk]
   rw[Nat.max_le,Nat.max_le,heightOs_le_iff (l:=l),heightTs_le_iff]
   exact and_congr (and_congr (by omega) Iff.rfl) Iff.rfl
theorem heightT_eq (t:Ty):heightT t=max (heightAs t.arrays) (heightOs t.objects):=by cases t; rfl
theorem height_le_succ {t:Ty} {n:Nat}:heightT t≤n+1↔(∀ a∈t.arrays,heightT a.item≤n)∧∀ o∈t.objects,hle n o:=by
 rw[heightT_eq,Nat.max_le,heightAs_le_iff,heightOs_le_iff]
theorem height_le_zero {t:Ty}:heightT t≤0↔t.arrays=[]∧t.objects=[]:=by
 rw[heightT_eq]
 constructor
 ·intro h
  refine⟨?_,?_⟩
  ·cases ha:t.arrays with
   | nil=>rfl
   | cons a l=>obtain⟨x,lo,hi⟩:=a; rw[ha] at h; simp only[heightAs] at h; omega
  ·cases ha:t.objects with
   | nil=>rfl
   | cons a l=>obtain⟨ns,fs,ms,r⟩:=a; rw[ha] at h; simp only[heightOs] at h; omega
 ·rintro⟨h1,h2⟩; rw[h1,h2]; simp[heightAs,heightOs]
theorem height_every (n:Nat):heightT tEvery≤n:=by simp[tEvery,heightT,heightAs,heightOs]
theorem height_never (n:Nat):heightT tNever≤n:=by simp[tNever,heightT,heightAs,heightOs]
theorem height_sumT:∀ (n:Nat) (a b:Ty),heightT a≤n→heightT b≤n→heightT (sumT a b)≤n:=by
 intro n
 induction n with
 | zero =>
   intro a b ha hb
   rw[height_le_zero] at *
   rw[sumT_def]
   split
   ·exact⟨rfl,rfl⟩
   ·simp[ha,hb,sumAs]
 | succ n ih =>
   intro a b ha hb
   rw[sumT_def]
   split
   ·exact height_every _
   ·rw[height_le_succ] at *
    simp only[Ty.arrays_mk,Ty.objects_mk]
    refine⟨fun x hx=>?_,fun o ho=>(List.mem_append.1 ho).elim (ha.2 o) (hb.2 o)⟩
    cases h1:a.arrays with
    | nil=>rw[h1,sumAs_nil_l] at hx; exact hb.1 x hx
    | cons y l =>
      cases h2:b.arrays with
      | nil=>rw[h1,h2,sumAs_nil_r] at hx; exact ha.1 x (by rw[h1]; exact hx)
      | cons z m =>
        rw[h1,h2] at hx
        simp only[sumAs,List.mem_singleton] at hx
        subst hx
        rw[sumA_def]
        exact ih _ _ (ha.1 y (by rw[h1]; simp)) (hb.1 z (by rw[h2]; simp))
theorem height_fold {n:Nat}:∀ (l:List Ty) (acc:Ty),(∀ t∈l,heightT t≤n)→heightT acc≤n→heightT (l.foldl sumT acc)≤n
 | [],acc,_,h=>h
 | t::l,acc,hl,h=>height_fold l _ (fun x hx=>hl x (by simp[hx])) (height_sumT n _ _ h (hl t (by simp)))
theorem height_sumL {n:Nat} {l:List Ty} (h:∀ t∈l,heightT t≤n):heightT (sumL l)≤n:=height_fold l _ h (height_never n)
theorem fieldO_in (o:Ob) (n:S):(fieldO o n).1∈o.fields∨(fieldO o n).1=o.rest:=by
 unfold fieldO
 split
 ·rename_i p hp
  have hm:=List.mem_of_find?_eq_some hp
  obtain⟨a,b,c⟩:=p
  exact .inl (List.of_mem_zip (List.of_mem_zip hm).2).1
 ·exact .inr rfl
theorem hle_field {n:Nat} {o:Ob} (h:hle n o) (s:S):heightT (fieldO o s).1≤n:=by
 rcases fieldO_in o s with k|k
 ·exact h.2 _ k
 ·rw[k]; exact h.1
theorem hle_oneO {n:Nat} {l:List Ob} (h:∀ o∈l,hle n o):hle n (oneO l):=by
 refine⟨height_sumL fun t ht=>?_,fun f hf=>?_⟩
 ·obtain⟨o,ho,rfl⟩:=List.mem_map.1 ht
  exact (h o ho).1
 ·simp only[oneO,Ob.fields_mk,List.mem_map] at hf
  obtain⟨s,_,rfl⟩:=hf
  refine height_sumL fun t ht=>?_
  obtain⟨o,ho,rfl⟩:=List.mem_map.1 ht
  exact hle_field (h o ho) s
theorem spareO_fields (o:Ob):∀ f∈(spareO o).fields,f∈o.fields:=fun f hf=>by
 simp only[spareO,Ob.fields_mk,List.mem_map,List.mem_filter] at hf
 obtain⟨⟨a,b,c⟩,⟨hm,_⟩,rfl⟩:=hf
 exact (List.of_mem_zip (List.of_mem_zip hm).2).1
theorem spareO_names (o:Ob):∀ f∈(spareO o).names,f∈o.names:=fun f hf=>by
 simp only[spareO,Ob.names_mk,List.mem_map,List.mem_filter] at hf
 obtain⟨⟨a,b,c⟩,⟨hm,_⟩,rfl⟩:=hf
 exact (List.of_mem_zip hm).1
theorem hle_spareO {n:Nat} {o:Ob} (h:hle n o):hle n (spareO o):=⟨h.1,fun f hf=>h.2 f (spareO_fields o f hf)⟩
theorem hle_trimO {n:Nat} {N:Ty→Ty} (hN:∀ t,heightT t≤n→heightT (N t)≤n) {o:Ob} (h:hle n o):hle n (trimO N o):=by
 unfold trimO
 have hs:=hle_spareO h
 generalize spareO o=p at *
 simp only
 split
 ·exact hs
 ·refine hle_spareO ⟨hN _ (height_sumL fun t ht=>?_),fun f hf=>hs.2 f (List.mem_of_mem_take hf)⟩
  rcases List.mem_cons.1 ht with rfl|ht
  ·exact hs.1
  ·exact hs.2 t (List.mem_of_mem_drop ht)
theorem hle_objectO {n:Nat} {N:Ty→Ty} (hN:∀ t,heightT t≤n→heightT (N t)≤n) {o:Ob} (h:heightT (N o.rest)≤n∧∀ f∈o.fields,heightT (N f)≤n):hle n (objectO N o) :=
 hle_trimO hN ⟨h.1,fun f hf=>by
  obtain⟨t,ht,rfl⟩:=List.mem_map.1 hf
  exact h.2 t ht⟩
theorem insC_sub {α:Type} {f:α→α→Ordering} {o:α}:∀ {l:List α} {y:α},y∈insC f o l→y=o∨y∈l
 | [],y,h=>.inl (by simpa[insC] using h)
 | x::l,y,h=>by
   simp only[insC] at h
   split at h
   ·simpa using h
   ·exact .inr h
   ·rcases List.mem_cons.1 h with h|h
    ·exact .inr (by simp[h])
    ·exact (insC_sub h).imp id (by simp +contextual)
theorem insC_len {α:Type} {f:α→α→Ordering} {o:α}:∀ {l:List α},(insC f o l).length≤l.length+1∧0<(insC f o l).length
 | []=>by simp[insC]
 | x::l=>by
   simp only[insC]
   split
   ·simp
   ·simp
   ·have:=(insC_len (f:=f) (o:=o) (l:=l)).1
    simp; exact this
theorem setC_sub {α:Type} {f:α→α→Ordering} (l:List α):(∀ y∈setC f l,y∈l)∧(setC f l).length≤l.length∧(l≠[]→setC f l≠[]):=by
 have key:∀ (l acc:List α),(∀ y∈l.foldl (fun acc o=>insC f o acc) acc,y∈acc∨y∈l)∧(l.foldl (fun acc o=>insC f o acc) acc).length≤acc.length+l.length∧(0<acc.length→0<(l.foldl (fun acc o=>insC f o acc) acc).length):=by
  intro l
  induction l with
  | nil=>intro acc; simp
  | cons o l ih =>
    intro acc
    obtain⟨h1,h2,h3⟩:=ih (insC f o acc)
    have hl:=insC_len (f:=f) (o:=o) (l:=acc)
    refine⟨fun y hy=>?_,?_,fun _=>h3 hl.2⟩
    ·rcases h1 y hy with h|h
     ·exact (insC_sub h).elim (fun e=>.inr (by simp[e])) .inl
     ·exact .inr (by simp[h])
    ·simp only[List.foldl_cons,List.length_cons]; omega
 obtain⟨h1,h2,h3⟩:=key l []
 refine⟨fun y hy=>(h1 y hy).elim (fun h=>by cases h) id,by simpa[setC] using h2,fun hl he=>?_⟩
 cases l with
 | nil=>exact hl rfl
 | cons o l =>
   have:=(key l (insC f o [])).2.2 (insC_len).2
   simp only[setC,List.foldl_cons] at he
   rw[he] at this
   simp at this
theorem rowO_sub (l:List Ob):(∀ o∈rowO l,o∈l)∧(rowO l).length≤l.length∧(l≠[]→rowO l≠[]):=by rw[rowO_eq]; exact setC_sub l
theorem outerO_len:∀ (l kept:List Ob),(outerO kept l).length≤kept.length+l.length∧(kept≠[]∨l≠[]→outerO kept l≠[])
 | [],kept=>by simp[outerO]
 | x::l,kept=>by
   simp only[outerO]
   split
   ·rename_i h
    have ih:=outerO_len l kept
    refine⟨by have:=ih.1; simp; omega,fun _=>ih.2 ?_⟩
    rcases Bool.or_eq_true_iff.1 h with h|h
    ·exact .inl fun e=>by rw[e] at h; simp at h
    ·exact .inr fun e=>by rw[e] at h; simp at h
   ·have ih:=outerO_len l (kept++[x])
    exact⟨by have:=ih.1; simp at this ⊢; omega,fun _=>ih.2 (.inl (by simp))⟩
theorem objectsO_mem {N:Ty→Ty} {l:List Ob} {o:Ob} (h:o∈objectsO N l):o∈l∨∃ m:List Ob,(∀ x∈m,x∈l)∧m≠[]∧o=objectO N (oneO m):=by
 have hr:∀ x∈outerO [] (rowO l),x∈l:=fun x hx=>(outerO_sub _ _ x hx).elim (fun h=>by cases h) ((rowO_sub l).1 x)
 unfold objectsO at h
 generalize outerO [] (rowO l)=row at *
 simp only at h
 split at h
 ·exact .inl (hr o h)
 ·rename_i hlen
  rcases outerO_sub _ _ o h with h'|h'
  ·cases h'
  ·have:=(rowO_sub _).1 o h'
   rcases List.mem_append.1 this with h2|h2
   ·exact .inl (hr o (List.mem_of_mem_take h2))
   ·simp only[List.mem_singleton] at h2
    exact .inr ⟨row.drop 3,fun x hx=>hr x (List.mem_of_mem_drop hx),fun e=>by have:=congrArg List.length e; simp at this; omega,h2⟩
theorem objectsO_len (N:Ty→Ty) (l:List Ob):(objectsO N l).length≤4∧(objectsO N l=[]↔l=[]):=by
 unfold objectsO
 have h1:=outerO_len (rowO l) []
 have h2:=rowO_sub l
 have h0:l=[]→outerO [] (rowO l)=[]:=fun e=>by subst e; rfl
 generalize outerO [] (rowO l)=row at *
 simp only
 split
 ·rename_i hlen
  refine⟨hlen,fun e=>?_,h0⟩
  cases hl:l with
  | nil=>rfl
  | cons x m=>exact absurd e (h1.2 (.inr (h2.2.2 (by rw[hl]; simp))))
 ·rename_i hlen
  have h3:=outerO_len (rowO (row.take 3++[objectO N (oneO (row.drop 3))])) []
  have h4:=rowO_sub (row.take 3++[objectO N (oneO (row.drop 3))])
  refine⟨?_,fun e=>?_,fun e=>?_⟩
  ·have a:=h3.1
   have b:=h4.2.1
   simp at a b
   omega
  ·exact absurd e (h3.2 (.inr (h4.2.2 (by simp))))
  ·rw[h0 e] at hlen; simp at hlen
theorem finT_cases (t:Ty) (as:List Arr) (os:List Ob):finT t as os=tEvery∨finT t as os=.mk false t.null t.fls t.tru t.nums (t.any||decide (16<t.texts.length)) (if 16<t.texts.length then [] else t.texts) as os:=by
 have key:∀ x:Ty,(if sameT x laidAll then tEvery else x)=tEvery∨(if sameT x laidAll then tEvery else x)=x:=fun x=>by
  split
  ·exact .inl rfl
  ·exact .inr rfl
 exact key _
theorem normalT_zero (t:Ty):normalT 0 t=if t.all||!t.arrays.isEmpty||!t.objects.isEmpty then tEvery else finT t [] []:=rfl
theorem normalT_succ (h:Nat) (t:Ty):normalT (h+1) t=if t.all then tEvery else finT t (t.arrays.map fun a=>.mk (normalT h a.item) a.min a.max) (objectsO (normalT h) (t.objects.map (objectO (normalT h)))):=rfl
theorem height_fin {t:Ty} {as:List Arr} {os:List Ob} {n:Nat} (h1:∀ a∈as,heightT a.item≤n) (h2:∀ o∈os,hle n o):heightT (finT t as os)≤n+1:=by
 rcases finT_cases t as os with e|e
 ·rw[e]; exact height_every _
 ·rw[e,height_le_succ]; exact⟨h1,h2⟩
theorem height_normalT:∀ (h:Nat) (t:Ty) (n:Nat),heightT t≤n∨h≤n→heightT (normalT h t)≤n:=by
 intro h
 induction h with
 | zero =>
   intro t n _
   rw[normalT_zero]
   split
   ·exact height_every n
   ·rcases finT_cases t [] [] with e|e<;>rw[e]
    ·exact height_every n
    ·simp[heightT,heightAs,heightOs]
 | succ h ih =>
   intro t n hn
   rw[normalT_succ]
   split
   ·exact height_every n
   ·match n,hn with
    | 0,hn =>
      have:=height_le_zero.1 (show heightT t≤0 by omega)
      rw[this.1,this.2]
      have e:objectsO (normalT h) (List.map (objectO (normalT h)) [])=[]:=(objectsO_len _ _).2.2 rfl
      rw[e]
      rcases finT_cases t [] [] with e|e<;>simp only[List.map_nil]<;>rw[e]
      ·exact height_every 0
      ·simp[heightT,heightAs,heightOs]
    | n+1,hn =>
      have hN:∀ t,heightT t≤n→heightT (normalT h t)≤n:=fun t ht=>ih t n (.inl ht)
      have hi:(∀ a∈t.arrays,heightT a.item≤n∨h≤n)∧∀ o∈t.objects,(heightT o.rest≤n∨h≤n)∧∀ f∈o.fields,heightT f≤n∨h≤n:=by
       rcases hn with hn|hn
       ·have:=height_le_succ.1 hn
        exact⟨fun a ha=>.inl (this.1 a ha),fun o ho=>⟨.inl (this.2 o ho).1,fun f hf=>.inl ((this.2 o ho).2 f hf)⟩⟩
       ·have:h≤n:=by omega
        exact⟨fun a ha=>.inr this,fun o ho=>⟨.inr this,fun f hf=>.inr this⟩⟩
      have hm:∀ o∈t.objects.map (objectO (normalT h)),hle n o:=fun o ho=>by
       obtain⟨x,hx,rfl⟩:=List.mem_map.1 ho
       exact hle_objectO hN ⟨ih _ _ (hi.2 x hx).1,fun f hf=>ih _ _ ((hi.2 x hx).2 f hf)⟩
      refine height_fin (fun a ha=>?_) (fun o ho=>?_)
      ·obtain⟨x,hx,rfl⟩:=List.mem_map.1 ha
       exact ih _ _ (hi.1 x hx)
      ·rcases objectsO_mem ho with h'|⟨m,h1,_,rfl⟩
       ·exact hm o h'
       ·have:=hle_oneO fun x hx=>hm x (h1 x hx)
        exact hle_objectO hN ⟨hN _ this.1,fun f hf=>hN _ (this.2 f hf)⟩
theorem never_finT {t:Ty} {as:List Arr} {os:List Ob} (h0:t.all=false) (h1:as=[]↔t.arrays=[]) (h2:os=[]↔t.objects=[]):never (finT t as os)=never t:=by
 have key:never (.mk false t.null t.fls t.tru t.nums (t.any||decide (16<t.texts.length)) (if 16<t.texts.length then [] else t.texts) as os)=never t:=by
  rw[Bool.eq_iff_iff,never_iff,never_iff]
  simp only[Ty.all_mk,Ty.null_mk,Ty.fls_mk,Ty.tru_mk,Ty.nums_mk,Ty.any_mk,Ty.texts_mk,Ty.arrays_mk,Ty.objects_mk,h0,h1,h2]
  by_cases h:16<t.texts.length
  ·have:¬ t.texts=[]:=fun e=>by rw[e] at h; simp at h
   simp[h,this]
  ·simp[h]
 have key2:∀ x:Ty,never (if sameT x laidAll then tEvery else x)=never x:=fun x=>by
  split
  ·rename_i hs
   unfold sameT at hs
   rw[beq_iff_eq] at hs
   obtain⟨a,b,c,d,ns,e,ts,as,os⟩:=x
   simp only[laidAll,cmpT,then_eq',bCmp_eq] at hs
   obtain⟨-,rfl,-⟩:=hs
   simp[never,bare,tEvery]
  ·rfl
 exact (key2 _).trans key
theorem never_normalT (h:Nat) (t:Ty) (ht:formedT t=true):never (normalT h t)=never t:=by
 have he:never tEvery=false:=by simp[never,tEvery]
 have ha:t.all=true→never t=false:=fun h=>by simp[never,h]
 cases h with
 | zero =>
   rw[normalT_zero]
   split
   ·rename_i hc
    rw[he]
    cases h1:t.all
    ·cases hn:never t
     ·rfl
     ·have:=never_iff.1 hn
      simp[h1,this] at hc
    ·rw[ha h1]
   ·rename_i hc
    simp only[Bool.or_eq_true,Bool.not_eq_true',not_or,Bool.not_eq_true,Bool.not_eq_false,List.isEmpty_iff,Bool.not_eq_eq_eq_not,Bool.not_false,Bool.not_true] at hc
    exact never_finT hc.1.1 (by simp[hc.1.2]) (by simp[hc.2])
 | succ h =>
   rw[normalT_succ]
   split
   ·rename_i h1; rw[he,ha h1]
   ·rename_i h1
    refine never_finT (by simpa using h1) (by simp) ?_
    rw[(objectsO_len _ _).2]; simp
theorem formed_finT {t:Ty} (ht:formedT t=true) {as:List Arr} {os:List Ob} (h1:as.length≤1) (h2:∀ a∈as,formedA a=true) (h3:∀ o∈os,formedO o=true):formedT (finT t as os)=true:=by
 obtain⟨t1,t2,t3,t4,t5,t6,t7,t8⟩:=formedT_spec ht
 rcases finT_cases t as os with e|e
 ·rw[e]; exact every_formed
 ·rw[e]
  refine formedT_intro (by simp) ?_ (fun h=>?_) t4 t5 h1 h2 h3
  ·simp only[Ty.texts_mk]
   split
   ·rfl
   ·exact t2
  ·simp only[Ty.any_mk,Ty.texts_mk] at h ⊢
   split
   ·rfl
   ·rename_i hn
    exact t3 (by simpa[hn] using h)
theorem formed_normalT:∀ (h:Nat) (t:Ty),formedT t=true→formedT (normalT h t)=true:=by
 intro h
 induction h with
 | zero =>
   intro t ht
   rw[normalT_zero]
   split
   ·exact every_formed
   ·exact formed_finT ht (by simp) (by simp) (by simp)
 | succ h ih =>
   intro t ht
   rw[normalT_succ]
   split
   ·exact every_formed
   ·obtain⟨t1,t2,t3,t4,t5,t6,t7,t8⟩:=formedT_spec ht
    have hv:∀ t,formedT t=true→never (normalT h t)=never t:=fun t ht=>never_normalT h t ht
    refine formed_finT ht (by simpa using t6) (fun a ha=>?_) (formed_objectsO ih hv fun o ho=>?_)
    ·obtain⟨x,hx,rfl⟩:=List.mem_map.1 ha
     obtain⟨x1,x2,x3,x4,x5⟩:=formedA_spec (t7 x hx)
     exact formedA_intro x1 x2 x3 (ih _ x4) (by rw[Arr.item_mk,hv _ x4]; exact x5)
    ·obtain⟨x,hx,rfl⟩:=List.mem_map.1 ho
     exact formed_objectO ih hv (t8 x hx)
theorem trimO_congr {N N' : Ty→Ty} {n:Nat} (h:∀ t,heightT t≤n→N t=N' t) {o:Ob} (ho:hle n o):trimO N o=trimO N' o:=by
 unfold trimO
 have hs:=hle_spareO ho
 generalize spareO o=p at *
 simp only
 split
 ·rfl
 ·rw[h _ (height_sumL fun t ht=>?_)]
  rcases List.mem_cons.1 ht with rfl|ht
  ·exact hs.1
  ·exact hs.2 t (List.mem_of_mem_drop ht)
theorem objectO_congr {N N' : Ty→Ty} {n:Nat} (h:∀ t,heightT t≤n→N t=N' t) (hN:∀ t,heightT t≤n→heightT (N t)≤n) {o:Ob} (ho:hle n o):objectO N o=objectO N' o:=by
 unfold objectO
 have e:o.fields.map N=o.fields.map N':=List.map_congr_left fun t ht=>h t (ho.2 t ht)
 rw[← e,← h _ ho.1]
 refine trimO_congr h ⟨hN _ ho.1,fun f hf=>?_⟩
 obtain⟨t,ht,rfl⟩:=List.mem_map.1 hf
 exact hN t (ho.2 t ht)
theorem objectsO_congr {N N' : Ty→Ty} {n:Nat} (h:∀ t,heightT t≤n→N t=N' t) (hN:∀ t,heightT t≤n→heightT (N t)≤n) {l:List Ob} (hl:∀ o∈l,hle n o):objectsO N l=objectsO N' l:=by
 unfold objectsO
 have hr:∀ x∈outerO [] (rowO l),x∈l:=fun x hx=>(outerO_sub _ _ x hx).elim (fun h=>by cases h) ((rowO_sub l).1 x)
 generalize outerO [] (rowO l)=row at *
 simp only
 split
 ·rfl
 ·rw[objectO_congr h hN (hle_oneO fun o ho=>hl o (hr o (List.mem_of_mem_drop ho)))]
theorem normalT_stable:∀ (h:Nat) (t:Ty),heightT t≤h→normalT (h+1) t=normalT h t:=by
 intro h
 induction h with
 | zero =>
   intro t ht
   have:=height_le_zero.1 ht
   rw[normalT_succ,normalT_zero,this.1,this.2]
   have e:objectsO (normalT 0) (List.map (objectO (normalT 0)) [])=[]:=(objectsO_len _ _).2.2 rfl
   rw[e]
   simp
 | succ h ih =>
   intro t ht
   obtain⟨h1,h2⟩:=height_le_succ.1 ht
   have hN:∀ t,heightT t≤h→heightT (normalT h t)≤h:=fun t ht=>height_normalT h t h (.inl ht)
   have he:∀ t,heightT t≤h→normalT h t=normalT (h+1) t:=fun t ht=>(ih t ht).symm
   rw[normalT_succ (h+1),normalT_succ h]
   have e1:(t.arrays.map fun a=>Arr.mk (normalT (h+1) a.item) a.min a.max)=t.arrays.map fun a=>Arr.mk (normalT h a.item) a.min a.max :=
    List.map_congr_left fun a ha=>by rw[ih _ (h1 a ha)]
   have e2:t.objects.map (objectO (normalT (h+1)))=t.objects.map (objectO (normalT h)) :=
    List.map_congr_left fun o ho=>(objectO_congr he hN (h2 o ho)).symm
   rw[e1,e2,objectsO_congr he hN (l:=t.objects.map (objectO (normalT h))) fun o ho=>by
    obtain⟨x,hx,rfl⟩:=List.mem_map.1 ho
    exact hle_objectO hN ⟨hN _ (h2 x hx).1,fun f hf=>hN _ ((h2 x hx).2 f hf)⟩]
theorem formFrom_step (t:Ty) (n h:Nat) (best:Ty):formFrom t (n+1) h best=if partsT (normalT h t)≤200 then formFrom t n (h+1) (normalT h t) else best:=rfl
theorem parts_zero {t:Ty} (h:heightT t≤0):partsT t=1:=by
 have:=height_le_zero.1 h
 obtain⟨a,b,c,d,ns,e,ts,as,os⟩:=t
 simp only[Ty.arrays_mk,Ty.objects_mk] at this
 rw[this.1,this.2]; simp[partsT,partsAs,partsOs]
theorem formFrom_high (t:Ty):∀ (n h:Nat),heightT t≤h→partsT (normalT h t)≤200→formFrom t n (h+1) (normalT h t)=normalT h t
 | 0,h,_,_=>rfl
 | n+1,h,h1,h2=>by
   rw[formFrom_step,normalT_stable h t h1,if_pos h2]
   have:=formFrom_high t n (h+1) (by omega) (by rw[normalT_stable h t h1]; exact h2)
   rw[normalT_stable h t h1] at this
   exact this
theorem formFrom_cut (t:Ty):∀ (n h m:Nat),h+n=heightT t+1→0<h→(h=1∨partsT (normalT (h-1) t)≤200)→formFrom t (n+m) h (normalT (h-1) t)=formFrom t n h (normalT (h-1) t)
 | 0,h,m,e,h0,hp=>by
   rw[Nat.zero_add]
   show _=normalT (h-1) t
   have e1:h=(h-1)+1:=by omega
   have hh:heightT t≤h-1:=by omega
   have:=formFrom_high t m (h-1) hh (by
    rcases hp with hp|hp
    ·rw[parts_zero (height_normalT _ _ 0 (.inl (by omega)))]; omega
    ·exact hp)
   rw[← e1] at this
   exact this
 | n+1,h,m,e,h0,hp=>by
   rw[show n+1+m=(n+m)+1 by omega,formFrom_step,formFrom_step]
   split
   ·rename_i hle
    have:=formFrom_cut t n (h+1) m (by omega) (by omega) (.inr (by simpa using hle))
    simpa using this
   ·rfl
theorem formT_min (t:Ty):formFrom t (min (heightT t) 8) 1 (normalT 0 t)=formT t:=by
 unfold formT
 by_cases h:heightT t≤8
 ·rw[Nat.min_eq_left h]
  have:=formFrom_cut t (heightT t) 1 (8-heightT t) (by omega) (by omega) (.inl rfl)
  rw[show heightT t+(8-heightT t)=8 by omega] at this
  exact this.symm
 ·rw[Nat.min_eq_right (by omega)]
theorem formFrom_is (t:Ty):∀ (n h:Nat),∃ k,k≤h+n∧h≤k∧formFrom t n (h+1) (normalT h t)=normalT k t
 | 0,h=>⟨h,by omega,by omega,rfl⟩
 | n+1,h=>by
   rw[formFrom_step]
   split
   ·obtain⟨k,h1,h2,h3⟩:=formFrom_is t n (h+1)
    exact⟨k,by omega,by omega,h3⟩
   ·exact⟨h,by omega,by omega,rfl⟩
theorem formT_is (t:Ty):∃ k,k≤8∧formT t=normalT k t:=by
 obtain⟨k,h1,_,h3⟩:=formFrom_is t 8 0
 exact⟨k,by omega,h3⟩
end Go.Tidy

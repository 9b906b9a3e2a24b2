/- Part 7. -/
import Derived.Test.YtfilonnphgnplaaGreatDoorA6
set_option linter.unusedSimpArgs false
set_option linter.unusedVariables false
namespace Go.Tidy
def Q3 (p q r:Ordering):Prop:=(p.isLE=true→q.isLE=true→r.isLE=true)∧(p=.eq→q=.eq→r=.eq)∧(p.isLE=true→q.isLE=true→r=.eq→p=.eq∧q=.eq)
instance (p q r:Ordering):Decidable (Q3 p q r):=by unfold Q3; infer_instance
theorem Q3.then {p q r p' q' r' : Ordering} (h:Q3 p q r) (k:Q3 p' q' r'):Q3 (p.then p') (q.then q') (r.then r'):=by
 revert p q r p' q' r'
 decide
theorem y7 (p q:Ordering):(p.then q).swap=p.swap.then q.swap:=by cases p<;>rfl
theorem JD {p q:Ordering}:p.then q=.eq↔p=.eq∧q=.eq:=by cases p<;>cases q<;>decide
theorem avr (a b:Bool):ku b a=(ku a b).swap:=by cases a<;>cases b<;>rfl
theorem agt (a b d:Bool):Q3 (ku a b) (ku b d) (ku a d):=by cases a<;>cases b<;>cases d<;>decide
theorem arV {a b:Bool}:ku a b=.eq↔a=b:=by cases a<;>cases b<;>decide
theorem ajz (a b:Int):compare b a=(compare a b).swap:=by
 simp only[compare,compareOfLessAndEq]
 by_cases h1:a<b
 ·rw[if_neg (by omega),if_neg (by omega),if_pos h1]; rfl
 ·by_cases h2:a=b
  ·subst h2; simp
  ·rw[if_pos (by omega),if_neg h1,if_neg h2]; rfl
theorem aaM {a b:Int}:compare a b=.eq↔a=b:=by
 simp only[compare,compareOfLessAndEq]
 split<;>(try split)<;>simp_all<;>omega
theorem aln {a b:Int}:compare a b=.lt↔a<b:=by
 simp only[compare,compareOfLessAndEq]
 split<;>(try split)<;>simp_all
theorem auM {a b:Int}:compare a b=.gt↔b<a:=by
 simp only[compare,compareOfLessAndEq]
 split<;>(try split)<;>simp_all<;>omega
theorem aI0 {p:Ordering}:p.isLE=true↔p=.lt∨p=.eq:=by cases p<;>simp
theorem aBt (a b d:Int):Q3 (compare a b) (compare b d) (compare a d):=by
 simp only[Q3,aI0,aln,aaM]
 omega
theorem Jk (a b:Nat):compare a b=compare (a:Int) (b:Int):=by
 simp only[compare,compareOfLessAndEq]
 split<;>split<;>(try split)<;>simp_all<;>omega
theorem avf (a b:Nat):compare b a=(compare a b).swap:=by rw[Jk,Jk]; exact ajz _ _
theorem aHo (a b d:Nat):Q3 (compare a b) (compare b d) (compare a d):=by rw[Jk,Jk,Jk]; exact aBt _ _ _
theorem Qo {a b:Nat}:compare a b=.eq↔a=b:=by rw[Jk,aaM]; omega
def af8 (a b:UInt8):Ordering:=compare a.toNat b.toNat
theorem alk {a b:UInt8}:af8 a b=.eq↔a=b:=by
 unfold af8; rw[Qo]; exact UInt8.toNat_inj
section
variable {α:Type} {f:α→α→Ordering}
theorem Og (hf:∀ a b,f b a=(f a b).swap):∀ l m:List α,dx f m l=(dx f l m).swap
 | [],[]=>rfl
 | [],_::_=>rfl
 | _::_,[]=>rfl
 | a::l,b::m=>by simp only[dx,y7,hf a b,Og hf l m]
theorem ad7 (hf:∀ a b d,Q3 (f a b) (f b d) (f a d)):∀ l m n:List α,Q3 (dx f l m) (dx f m n) (dx f l n)
 | [],[],[]=>by simp[dx,Q3]
 | [],[],_::_=>by simp[dx,Q3]
 | [],_::_,[]=>by simp[dx,Q3]
 | [],_::_,_::_=>by simp[dx,Q3]
 | _::_,[],[]=>by simp[dx,Q3]
 | _::_,[],_::_=>by simp[dx,Q3]
 | _::_,_::_,[]=>by simp[dx,Q3]
 | a::l,b::m,d::n=>by
   simp only[dx]
   exact (hf a b d).then (ad7 hf l m n)
theorem adA {D:α→Prop} (hf:∀ a b,D a→D b→f a b=.eq→a=b):∀ l m:List α,(∀ x∈l,D x)→(∀ x∈m,D x)→dx f l m=.eq→l=m
 | [],[],_,_,_=>rfl
 | [],_::_,_,_,h=>by simp[dx] at h
 | _::_,[],_,_,h=>by simp[dx] at h
 | a::l,b::m,h1,h2,h=>by
   simp only[dx,JD] at h
   rw[hf a b (h1 a (by simp)) (h2 b (by simp)) h.1,adA hf l m (fun x hx=>h1 x (by simp[hx])) (fun x hx=>h2 x (by simp[hx])) h.2]
theorem ajF (hf:∀ a,f a a=.eq):∀ l:List α,dx f l l=.eq
 | []=>rfl
 | a::l=>by simp only[dx,hf a,ajF hf l]; rfl
end
theorem JI:∀ x y:List UInt8,aFU x y=dx af8 x y
 | [],[]=>rfl
 | [],_::_=>rfl
 | _::_,[]=>rfl
 | a::x,b::y=>by
   have ih:=JI x y
   simp only[dx,← ih]
   unfold aFU af8
   simp only[Op.bytesLess,compare,compareOfLessAndEq]
   by_cases h1:a<b
   ·have:a.toNat<b.toNat:=h1
    simp[h1,this,Ordering.then]
   ·have h1' : ¬ a.toNat<b.toNat:=h1
    by_cases h2:a=b
    ·subst h2
     simp[Ordering.then]
    ·have h2' : a.toNat≠b.toNat:=fun e=>h2 (UInt8.toNat_inj.1 e)
     simp[h1,h1',h2,h2',Ordering.then]
theorem Vw (a b:S):kR a b=dx af8 a.data.toList b.data.toList:=JI _ _
theorem avn (a b:UInt8):af8 b a=(af8 a b).swap:=avf _ _
theorem aHb (a b d:UInt8):Q3 (af8 a b) (af8 b d) (af8 a d):=aHo _ _ _
theorem OH (a b:S):kR b a=(kR a b).swap:=by rw[Vw,Vw]; exact Og avn _ _
theorem aeG (a b d:S):Q3 (kR a b) (kR b d) (kR a d):=by rw[Vw,Vw,Vw]; exact ad7 aHb _ _ _
theorem aGD {a b:S} (h:a.data.toList=b.data.toList):a=b:=ByteArray.ext (Array.ext' h)
theorem qo {a b:S}:sEq a b=true↔a=b:=⟨fun h=>aGD (by simpa[sEq] using h),fun h=>by subst h; simp[sEq]⟩
theorem agr {a b:S}:kR a b=.eq↔a=b:=by
 rw[Vw]
 refine⟨fun h=>aGD (adA (D:=fun _=>True) (fun a b _ _ h=>alk.1 h) _ _ (fun _ _=>trivial) (fun _ _=>trivial) h),fun h=>by subst h; exact ajF (fun _=>alk.2 rfl) _⟩
theorem uW {a b:S}:kR a b=.lt↔sLt a b=true:=by
 unfold kR
 split
 ·simp_all
 ·split<;>simp_all
theorem aph (a:S):sLt a a=false:=by
 cases h:sLt a a with
 | false=>rfl
 | true=>rw[← uW,agr.2 rfl] at h; cases h
theorem aIV {a b d:S} (h:sLt a b=true) (k:sLt b d=true):sLt a d=true:=by
 rw[← uW] at *
 have:=aeG a b d
 rw[h,k] at this
 cases hr:kR a d<;>rw[hr] at this<;>simp[Q3] at this ⊢
theorem aEV (a b:S):sLt a b=true∨a=b∨sLt b a=true:=by
 cases h:kR a b with
 | lt=>exact .inl (uW.1 h)
 | eq=>exact .inr (.inl (agr.1 h))
 | gt=>exact .inr (.inr (uW.1 (by rw[OH,h]; rfl)))
theorem wh {a:S}:fU a=true↔a=ByteArray.empty:=by
 unfold fU
 rw[List.isEmpty_iff]
 exact⟨fun h=>aGD (by rw[h]; rfl),fun h=>by subst h; rfl⟩
theorem aDY (x y:List UInt8):qG y x=(qG x y).swap:=by
 unfold qG; rw[y7,← avf,JI,JI,← Og avn]
theorem aAv (x y z:List UInt8):Q3 (qG x y) (qG y z) (qG x z):=by
 unfold qG; rw[JI,JI,JI]; exact (aHo _ _ _).then (ad7 aHb _ _ _)
theorem avw {x y:List UInt8}:qG x y=.eq↔x=y:=by
 unfold qG
 rw[JD,JI]
 refine⟨fun h=>adA (D:=fun _=>True) (fun a b _ _ h=>alk.1 h) _ _ (fun _ _=>trivial) (fun _ _=>trivial) h.2,fun h=>by subst h; exact⟨Qo.2 rfl,ajF (fun _=>alk.2 rfl) _⟩⟩
theorem afZ (a b:S):fQ b a=(fQ a b).swap:=by
 unfold fQ
 cases neg a<;>cases neg b<;>first|rfl|exact aDY _ _
theorem aIq (x y z:List UInt8):Q3 (qG y x) (qG z y) (qG z x):=by
 have h:=aAv z y x
 revert h
 generalize qG z y=p; generalize qG y x=q; generalize qG z x=r
 revert p q r
 decide
theorem azG (a b d:S):Q3 (fQ a b) (fQ b d) (fQ a d):=by
 unfold fQ
 cases neg a<;>cases neg b<;>cases neg d<;>simp only
 all_goals first
   | exact aAv _ _ _
   | exact aIq _ _ _
   | (simp[Q3]; done)
   | (simp[Q3]; intro h; cases hh:qG _ _<;>simp_all)
theorem azz {a b:S} (h:neg a=neg b) (hd:qc a=qc b):a=b:=by
 refine aGD ?_
 unfold qc at hd
 rw[h] at hd
 cases hb:neg b with
 | false=>simpa[hb] using hd
 | true =>
   rw[hb] at hd h
   simp only[if_true] at hd
   simp only[neg,beq_iff_eq] at h hb
   cases ha' : a.data.toList with
   | nil=>rw[ha'] at h; cases h
   | cons x l =>
     cases hb' : b.data.toList with
     | nil=>rw[hb'] at hb; cases hb
     | cons y m=>rw[ha',hb'] at hd; rw[ha'] at h; rw[hb'] at hb; simp at h hb hd; subst h; subst hb; rw[hd]
theorem aHv {a b:S}:fQ a b=.eq↔a=b:=by
 refine⟨fun h=>?_,fun h=>?_⟩
 ·unfold fQ at h
  cases ha:neg a<;>cases hb:neg b<;>simp only[ha,hb,avw] at h
  ·exact azz (ha.trans hb.symm) h
  ·cases h
  ·cases h
  ·exact azz (ha.trans hb.symm) h.symm
 ·subst h
  unfold fQ
  cases neg a<;>simp[avw.2]
theorem Lu {o:Ordering} {a b:S} (h:a≠b):l7 o a b=if fU a then o else if fU b then o.swap else fQ a b:=by
 unfold l7; rw[if_neg (fun h'=>h (qo.1 h'))]
theorem KU {o:Ordering} {a:S}:l7 o a a=.eq:=by
 unfold l7; rw[if_pos (qo.2 rfl)]
theorem af0 {o:Ordering} (ho:o≠.eq) {a b:S}:l7 o a b=.eq↔a=b:=by
 by_cases h:a=b
 ·subst h; simp[KU]
 ·rw[Lu h]
  simp only[h,iff_false]
  split
  ·exact ho
  ·split
   ·cases o<;>first|exact absurd rfl ho|decide
   ·rw[aHv]; exact h
theorem acD (o:Ordering) (a b:S):l7 o b a=(l7 o a b).swap:=by
 by_cases h:a=b
 ·subst h; rw[KU]; rfl
 ·rw[Lu h,Lu (Ne.symm h)]
  by_cases ha:fU a=true<;>by_cases hb:fU b=true
  ·exact absurd ((wh.1 ha).trans (wh.1 hb).symm) h
  ·rw[if_neg hb,if_pos ha,if_pos ha]
  ·rw[if_pos hb,if_neg ha,if_pos hb]; cases o<;>rfl
  ·rw[if_neg hb,if_neg ha,if_neg ha,if_neg hb]; exact afZ _ _
theorem aqw (o:Ordering) (ho:o≠.eq) (a b d:S):Q3 (l7 o a b) (l7 o b d) (l7 o a d):=by
 by_cases hab:a=b
 ·subst hab
  rw[KU]
  generalize l7 o a d=r; revert r; decide
 by_cases hbd:b=d
 ·subst hbd
  rw[KU]
  generalize l7 o a b=r; revert r; decide
 by_cases had:a=d
 ·subst had
  rw[acD o a b,KU]
  have:l7 o a b≠.eq:=fun h=>hab ((af0 ho).1 h)
  revert this
  generalize l7 o a b=r; revert r; decide
 rw[Lu hab,Lu hbd,Lu had]
 by_cases ha:fU a=true<;>by_cases hb:fU b=true<;>by_cases hd:fU d=true
 all_goals first
   | exact absurd ((wh.1 ha).trans (wh.1 hb).symm) hab
   | exact absurd ((wh.1 hb).trans (wh.1 hd).symm) hbd
   | exact absurd ((wh.1 ha).trans (wh.1 hd).symm) had
   | skip
 ·rw[if_pos ha,if_neg hb,if_neg hd,if_pos ha]
  generalize fQ b d=r; clear ha hb hd hab hbd had; revert r; cases o<;>first|exact absurd rfl ho|decide
 ·rw[if_neg ha,if_pos hb,if_pos hb,if_neg ha,if_neg hd]
  generalize fQ a d=r; clear ha hb hd hab hbd had; revert r; cases o<;>first|exact absurd rfl ho|decide
 ·rw[if_neg ha,if_neg hb,if_neg hb,if_pos hd,if_neg ha,if_pos hd]
  generalize fQ a b=r; clear ha hb hd hab hbd had; revert r; cases o<;>first|exact absurd rfl ho|decide
 ·rw[if_neg ha,if_neg hb,if_neg hb,if_neg hd,if_neg ha,if_neg hd]
  exact azG _ _ _
theorem azV (a b:Span):nk b a=(nk a b).swap:=by unfold nk; rw[y7,← acD,← acD]
theorem aIt (a b d:Span):Q3 (nk a b) (nk b d) (nk a d):=(aqw _ (by decide) _ _ _).then (aqw _ (by decide) _ _ _)
theorem aFG {a b:Span}:nk a b=.eq↔a=b:=by
 unfold nk
 rw[JD,af0 (by decide),af0 (by decide)]
 cases a; cases b; simp
theorem azl (a b:Int):su b a=(su a b).swap:=by
 unfold su
 by_cases ha:a<0<;>by_cases hb:b<0<;>simp[ha,hb]
 exact ajz _ _
theorem aIl (a b d:Int):Q3 (su a b) (su b d) (su a d):=by
 unfold su
 by_cases ha:a<0<;>by_cases hb:b<0<;>by_cases hd:d<0<;>simp only[ha,hb,hd,if_true,if_false]
 all_goals first
   | decide
   | exact aBt _ _ _
   | (simp[Q3]; done)
   | (generalize compare _ _=r; revert r; decide)
theorem ahx {a b:Int} (ha : -1≤a) (hb : -1≤b):su a b=.eq↔a=b:=by
 unfold su
 split<;>split
 ·simp; omega
 ·simp; omega
 ·simp; omega
 ·exact aaM
mutual
theorem ajX:∀ a b:Ty,kU b a=(kU a b).swap
 | .mk a b c d ns e ts as os,.mk a' b' c' d' ns' e' ts' as' os'=>by
   simp only[kU,y7,← avr,← Og azV,← Og OH,← aqv as as',← aoL os os']
theorem aIs:∀ a b:Arr,wU b a=(wU a b).swap
 | .mk t lo hi,.mk t' lo' hi'=>by simp only[wU,y7,← ajz,← azl,← ajX t t']
theorem ae7:∀ a b:Ob,mg b a=(mg a b).swap
 | .mk ns fs ms r,.mk ns' fs' ms' r'=>by simp only[mg,y7,← Og OH,← Og avr,← ao2 fs fs',← ajX r r']
theorem aqv:∀ a b:List Arr,pQ b a=(pQ a b).swap
 | [],[]=>by simp[pQ]
 | [],_::_=>by simp[pQ]
 | _::_,[]=>by simp[pQ]
 | a::l,b::m=>by simp only[pQ,y7,← aIs a b,← aqv l m]
theorem aoL:∀ a b:List Ob,oU b a=(oU a b).swap
 | [],[]=>by simp[oU]
 | [],_::_=>by simp[oU]
 | _::_,[]=>by simp[oU]
 | a::l,b::m=>by simp only[oU,y7,← ae7 a b,← aoL l m]
theorem ao2:∀ a b:List Ty,qb b a=(qb a b).swap
 | [],[]=>by simp[qb]
 | [],_::_=>by simp[qb]
 | _::_,[]=>by simp[qb]
 | a::l,b::m=>by simp only[qb,y7,← ajX a b,← ao2 l m]
end
mutual
theorem aCf:∀ a b d:Ty,Q3 (kU a b) (kU b d) (kU a d)
 | .mk _ _ _ _ _ _ _ as os,.mk _ _ _ _ _ _ _ as' os',.mk _ _ _ _ _ _ _ as'' os''=>by
   simp only[kU]
   exact (agt _ _ _).then ((agt _ _ _).then ((agt _ _ _).then ((agt _ _ _).then ((ad7 aIt _ _ _).then ((agt _ _ _).then ((ad7 aeG _ _ _).then ((aEX as as' as'').then (aE6 os os' os''))))))))
theorem aMu:∀ a b d:Arr,Q3 (wU a b) (wU b d) (wU a d)
 | .mk t _ _,.mk t' _ _,.mk t'' _ _=>by
   simp only[wU]
   exact (aBt _ _ _).then ((aIl _ _ _).then (aCf t t' t''))
theorem aoG:∀ a b d:Ob,Q3 (mg a b) (mg b d) (mg a d)
 | .mk _ fs _ r,.mk _ fs' _ r',.mk _ fs'' _ r''=>by
   simp only[mg]
   exact (ad7 aeG _ _ _).then ((ad7 agt _ _ _).then ((aFi fs fs' fs'').then (aCf r r' r'')))
theorem aEX:∀ a b d:List Arr,Q3 (pQ a b) (pQ b d) (pQ a d)
 | [],[],[]=>by simp[pQ,Q3]
 | [],[],_::_=>by simp[pQ,Q3]
 | [],_::_,[]=>by simp[pQ,Q3]
 | [],_::_,_::_=>by simp[pQ,Q3]
 | _::_,[],[]=>by simp[pQ,Q3]
 | _::_,[],_::_=>by simp[pQ,Q3]
 | _::_,_::_,[]=>by simp[pQ,Q3]
 | a::l,b::m,d::n=>by
   simp only[pQ]
   exact (aMu a b d).then (aEX l m n)
theorem aE6:∀ a b d:List Ob,Q3 (oU a b) (oU b d) (oU a d)
 | [],[],[]=>by simp[oU,Q3]
 | [],[],_::_=>by simp[oU,Q3]
 | [],_::_,[]=>by simp[oU,Q3]
 | [],_::_,_::_=>by simp[oU,Q3]
 | _::_,[],[]=>by simp[oU,Q3]
 | _::_,[],_::_=>by simp[oU,Q3]
 | _::_,_::_,[]=>by simp[oU,Q3]
 | a::l,b::m,d::n=>by
   simp only[oU]
   exact (aoG a b d).then (aE6 l m n)
theorem aFi:∀ a b d:List Ty,Q3 (qb a b) (qb b d) (qb a d)
 | [],[],[]=>by simp[qb,Q3]
 | [],[],_::_=>by simp[qb,Q3]
 | [],_::_,[]=>by simp[qb,Q3]
 | [],_::_,_::_=>by simp[qb,Q3]
 | _::_,[],[]=>by simp[qb,Q3]
 | _::_,[],_::_=>by simp[qb,Q3]
 | _::_,_::_,[]=>by simp[qb,Q3]
 | a::l,b::m,d::n=>by
   simp only[qb]
   exact (aCf a b d).then (aFi l m n)
end
mutual
def aeu:Ty→Prop
 | .mk _ _ _ _ _ _ _ as os=>agH as∧agl os
def agH:List Arr→Prop
 | []=>True
 | .mk t _ hi::l=>(-1≤hi∧aeu t)∧agH l
def agl:List Ob→Prop
 | []=>True
 | .mk _ fs _ r::l=>(adK fs∧aeu r)∧agl l
def adK:List Ty→Prop
 | []=>True
 | t::l=>aeu t∧adK l
end
theorem alh {l m:List S} (h:dx kR l m=.eq):l=m:=adA (D:=fun _=>True) (fun _ _ _ _ h=>agr.1 h) _ _ (fun _ _=>trivial) (fun _ _=>trivial) h
theorem aKZ {l m:List Bool} (h:dx ku l m=.eq):l=m:=adA (D:=fun _=>True) (fun _ _ _ _ h=>arV.1 h) _ _ (fun _ _=>trivial) (fun _ _=>trivial) h
theorem aLq {l m:List Span} (h:dx nk l m=.eq):l=m:=adA (D:=fun _=>True) (fun _ _ _ _ h=>aFG.1 h) _ _ (fun _ _=>trivial) (fun _ _=>trivial) h
mutual
theorem aup:∀ a b:Ty,aeu a→aeu b→kU a b=.eq→a=b
 | .mk _ _ _ _ _ _ _ as os,.mk _ _ _ _ _ _ _ as' os',h1,h2,h=>by
   simp only[kU,JD,arV] at h
   obtain⟨rfl,rfl,rfl,rfl,e1,rfl,e2,e3,e4⟩:=h
   rw[aLq e1,alh e2,avu as as' h1.1 h2.1 e3,ajW os os' h1.2 h2.2 e4]
theorem avu : ∀ a b:List Arr,agH a→agH b→pQ a b=.eq→a=b
 | [],[],_,_,_=>rfl
 | [],_::_,_,_,h=>by simp[pQ] at h
 | _::_,[],_,_,h=>by simp[pQ] at h
 | .mk t lo hi::l,.mk t' lo' hi'::m,h1,h2,h=>by
   simp only[pQ,wU,JD,aaM,ahx h1.1.1 h2.1.1] at h
   obtain⟨⟨rfl,rfl,e1⟩,e2⟩:=h
   rw[aup t t' h1.1.2 h2.1.2 e1,avu l m h1.2 h2.2 e2]
theorem ajW : ∀ a b:List Ob,agl a→agl b→oU a b=.eq→a=b
 | [],[],_,_,_=>rfl
 | [],_::_,_,_,h=>by simp[oU] at h
 | _::_,[],_,_,h=>by simp[oU] at h
 | .mk ns fs ms r::l,.mk ns' fs' ms' r'::m,h1,h2,h=>by
   simp only[oU,mg,JD] at h
   obtain⟨⟨e1,e2,e3,e4⟩,e5⟩:=h
   rw[alh e1,aKZ e2,avj fs fs' h1.1.1 h2.1.1 e3,aup r r' h1.1.2 h2.1.2 e4,ajW l m h1.2 h2.2 e5]
theorem avj : ∀ a b:List Ty,adK a→adK b→qb a b=.eq→a=b
 | [],[],_,_,_=>rfl
 | [],_::_,_,_,h=>by simp[qb] at h
 | _::_,[],_,_,h=>by simp[qb] at h
 | t::l,t'::m,h1,h2,h=>by
   simp only[qb,JD] at h
   rw[aup t t' h1.1 h2.1 h.1,avj l m h1.2 h2.2 h.2]
end
end Go.Tidy
namespace Go.Tidy
section
variable {α:Type} {f:α→α→Ordering}
def SS (f:α→α→Ordering) (l:List α):Prop:=l.Pairwise fun a b=>f a b=.lt
theorem aaQ (hs:∀ a b,f b a=(f a b).swap) (a:α):f a a=.eq:=by
 have:=hs a a
 cases h:f a a<;>rw[h] at this<;>simp_all
theorem aoT (hs:∀ a b,f b a=(f a b).swap):∀ {l m:List α},SS f l→SS f m→(∀ x,x∈l↔x∈m)→l=m
 | [],[],_,_,_=>rfl
 | [],b::m,_,_,h=>by have:=(h b).2 (by simp); simp at this
 | a::l,[],_,_,h=>by have:=(h a).1 (by simp); simp at this
 | a::l,b::m,h1,h2,h=>by
   unfold SS at h1 h2
   rw[List.pairwise_cons] at h1 h2
   have e:a=b:=by
    rcases List.mem_cons.1 ((h a).1 (by simp)) with e|ha
    ·exact e
    ·rcases List.mem_cons.1 ((h b).2 (by simp)) with e|hb
     ·exact e.symm
     ·have k1:=h1.1 b hb
      have k2:=h2.1 a ha
      rw[hs b a,k2] at k1
      cases k1
   subst e
   congr 1
   refine aoT hs h1.2 h2.2 fun x=>⟨fun hx=>?_,fun hx=>?_⟩
   ·rcases List.mem_cons.1 ((h x).1 (List.mem_cons_of_mem _ hx)) with e|hm
    ·subst e
     have:=h1.1 x hx
     rw[aaQ hs] at this; cases this
    ·exact hm
   ·rcases List.mem_cons.1 ((h x).2 (List.mem_cons_of_mem _ hx)) with e|hm
    ·subst e
     have:=h2.1 x hx
     rw[aaQ hs] at this; cases this
    ·exact hm
def yw (f:α→α→Ordering) (o:α):List α→List α
 | []=>[o]
 | x::l=>match f o x with
   | .lt=>o::x::l
   | .eq=>x::l
   | .gt=>x::yw f o l
theorem abw (hQ:∀ a b d,Q3 (f a b) (f b d) (f a d)) {a b d:α} (h:f a b=.lt) (k:f b d=.lt):f a d=.lt:=by
 have:=hQ a b d
 rw[h,k] at this
 cases hr:f a d<;>rw[hr] at this<;>simp[Q3] at this ⊢
theorem anC {D:α→Prop} (he:∀ a b,D a→D b→f a b=.eq→a=b) {o:α} (ho:D o):∀ {l:List α},(∀ x∈l,D x)→∀ y,y∈yw f o l↔y=o∨y∈l
 | [],_,y=>by simp[yw]
 | x::l,hl,y=>by
   simp only[yw]
   split
   ·simp
   ·rename_i h
    have:=he o x ho (hl x (by simp)) h
    subst this
    simp
   ·rw[List.mem_cons,anC he ho (fun z hz=>hl z (by simp[hz])) y,List.mem_cons]
    exact⟨fun h=>by rcases h with h|h|h<;>simp[h],fun h=>by rcases h with h|h|h<;>simp[h]⟩
theorem aEP {D:α→Prop} (hs:∀ a b,f b a=(f a b).swap) (hQ:∀ a b d,Q3 (f a b) (f b d) (f a d)) (he:∀ a b,D a→D b→f a b=.eq→a=b) {o:α} (ho:D o):∀ {l:List α},(∀ x∈l,D x)→SS f l→SS f (yw f o l)
 | [],_,_=>by simp[yw,SS]
 | x::l,hl,h=>by
   unfold SS at h ⊢
   rw[List.pairwise_cons] at h
   simp only[yw]
   split
   ·rename_i hlt
    rw[List.pairwise_cons,List.pairwise_cons]
    refine⟨fun y hy=>?_,h.1,h.2⟩
    rcases List.mem_cons.1 hy with rfl|hy
    ·exact hlt
    ·exact abw hQ hlt (h.1 y hy)
   ·rw[List.pairwise_cons]; exact h
   ·rename_i hgt
    rw[List.pairwise_cons]
    refine⟨fun y hy=>?_,aEP hs hQ he ho (fun z hz=>hl z (by simp[hz])) h.2⟩
    rcases (anC he ho (fun z hz=>hl z (by simp[hz])) y).1 hy with rfl|hy
    ·rw[hs,hgt]; rfl
    ·exact h.1 y hy
def zU (f:α→α→Ordering) (l:List α):List α:=l.foldl (fun acc o=>yw f o acc) []
theorem ake {D:α→Prop} (hs:∀ a b,f b a=(f a b).swap) (hQ:∀ a b d,Q3 (f a b) (f b d) (f a d)) (he:∀ a b,D a→D b→f a b=.eq→a=b) (l:List α) (hl:∀ x∈l,D x) :
 SS f (zU f l)∧∀ y,y∈zU f l↔y∈l:=by
 have key:∀ (l acc:List α),(∀ x∈l,D x)→(∀ x∈acc,D x)→SS f acc→SS f (l.foldl (fun acc o=>yw f o acc) acc)∧∀ y,y∈l.foldl (fun acc o=>yw f o acc) acc↔y∈acc∨y∈l:=by
  intro l
  induction l with
  | nil=>intro acc _ _ h; exact⟨h,by simp⟩
  | cons o l ih =>
    intro acc hl ha h
    have ho:=hl o (by simp)
    have hm:=anC he ho ha
    obtain⟨k1,k2⟩:=ih (yw f o acc) (fun x hx=>hl x (by simp[hx])) (fun x hx=>by
     rcases (hm x).1 hx with rfl|hx
     ·exact ho
     ·exact ha x hx) (aEP hs hQ he ho ha h)
    refine⟨k1,fun y=>?_⟩
    rw[List.foldl_cons,k2 y,hm y,List.mem_cons]
    exact⟨fun h=>by rcases h with (h|h)|h<;>simp[h],fun h=>by rcases h with h|h|h<;>simp[h]⟩
 obtain⟨k1,k2⟩:=key l [] hl (by simp) (by simp[SS])
 exact⟨k1,fun y=>(k2 y).trans (by simp)⟩
def oO (e:α→α→Bool):List α→List α
 | []=>[]
 | [a]=>[a]
 | a::b::l=>if e b a then (match oO e (b::l) with|_::m=>a::m|[]=>[a]) else a::oO e (b::l)
theorem akW {D:α→Prop} (hs:∀ a b,f b a=(f a b).swap) (hQ:∀ a b d,Q3 (f a b) (f b d) (f a d)) (he:∀ a b,D a→D b→f a b=.eq→a=b):∀ (l:List α),(∀ x∈l,D x)→l.Pairwise (fun a b=>f a b≠.gt) →
 SS f (oO (fun a b=>f a b == .eq) l)∧(∀ y,y∈oO (fun a b=>f a b == .eq) l↔y∈l)∧(oO (fun a b=>f a b == .eq) l).head? = l.head?
 | [],_,_=>by simp[oO,SS]
 | [a],_,_=>by simp[oO,SS]
 | a::b::l,hl,h=>by
   rw[List.pairwise_cons] at h
   obtain⟨k1,k2,k3⟩:=akW hs hQ he (b::l) (fun x hx=>hl x (by simp[hx])) h.2
   simp only[oO]
   split
   ·rename_i heq
    have e:b=a:=he b a (hl b (by simp)) (hl a (by simp)) (by simpa using heq)
    subst e
    cases hc:oO (fun a b=>f a b == .eq) (b::l) with
    | nil=>rw[hc] at k3; simp at k3
    | cons c m =>
      rw[hc] at k1 k2 k3
      simp only[List.head?_cons,Option.some.injEq] at k3
      subst k3
      refine⟨k1,fun y=>?_,rfl⟩
      rw[k2 y]
      simp
   ·rename_i hne
    have hlt:f a b=.lt:=by
     have h1:=h.1 b (by simp)
     cases hab:f a b with
     | lt=>rfl
     | eq=>rw[hs a b,hab] at hne; exact absurd rfl hne
     | gt=>exact absurd hab h1
    refine⟨?_,fun y=>by rw[List.mem_cons,k2 y,List.mem_cons (a:=y) (b:=a)],rfl⟩
    unfold SS
    rw[List.pairwise_cons]
    refine⟨fun y hy=>?_,k1⟩
    rcases List.mem_cons.1 ((k2 y).1 hy) with rfl|hy'
    ·exact hlt
    ·have h2:=(List.pairwise_cons.1 h.2).1 y hy'
     cases hby:f b y with
     | lt=>exact abw hQ hlt hby
     | eq =>
       have:=he b y (hl b (by simp)) (hl y (by simp[hy'])) hby
       subst this; exact hlt
     | gt=>exact absurd hby h2
theorem aFT {D:α→Prop} (hs:∀ a b,f b a=(f a b).swap) (hQ:∀ a b d,Q3 (f a b) (f b d) (f a d)) (he:∀ a b,D a→D b→f a b=.eq→a=b) (l l' : List α) (hl:∀ x∈l,D x) (hp:l'.Perm l) (h:l'.Pairwise (fun a b=>f a b≠.gt)) :
 oO (fun a b=>f a b == .eq) l'=zU f l:=by
 obtain⟨k1,k2,_⟩:=akW hs hQ he l' (fun x hx=>hl x (hp.mem_iff.1 hx)) h
 obtain⟨g1,g2⟩:=ake hs hQ he l hl
 exact aoT hs k1 g1 fun x=>by rw[k2 x,g2 x]; exact hp.mem_iff
end
abbrev SSs (l:List S):Prop:=SS kR l
theorem xq:∀ (l m:List S) (y:S),y∈ig l m↔y∈l∨y∈m
 | [],b,y=>by simp[ig]
 | a::l,[],y=>by simp[ig]
 | a::l,b::m,y=>by
   unfold ig
   split
   ·rw[List.mem_cons,xq l (b::m) y]; simp[or_assoc]
   ·split
    ·rw[List.mem_cons,xq (a::l) m y]; simp only[List.mem_cons]; exact⟨fun h=>by rcases h with h|(h|h)|h<;>simp[h],fun h=>by rcases h with (h|h)|h|h<;>simp[h]⟩
    ·rename_i h1 h2
     have e:a=b:=by
      rcases aEV a b with h|h|h
      ·exact absurd h h1
      ·exact h
      ·exact absurd h h2
     subst e
     rw[List.mem_cons,xq l m y]; simp only[List.mem_cons]; exact⟨fun h=>by rcases h with h|h|h<;>simp[h],fun h=>by rcases h with (h|h)|h|h<;>simp[h]⟩
termination_by l m=>l.length+m.length
theorem abJ:∀ (l m:List S),SSs l→SSs m→SSs (ig l m)
 | [],b,_,h=>by simpa[ig] using h
 | a::l,[],h,_=>by simpa[ig] using h
 | a::l,b::m,h1,h2=>by
   unfold ig
   unfold SSs SS at h1 h2 ⊢
   have h1':=List.pairwise_cons.1 h1
   have h2':=List.pairwise_cons.1 h2
   split
   ·rename_i hlt
    rw[List.pairwise_cons]
    refine⟨fun y hy=>?_,abJ l (b::m) h1'.2 h2⟩
    rcases (xq l (b::m) y).1 hy with hy|hy
    ·exact h1'.1 y hy
    ·rcases List.mem_cons.1 hy with rfl|hy
     ·exact uW.2 hlt
     ·exact abw aeG (uW.2 hlt) (h2'.1 y hy)
   ·split
    ·rename_i hlt
     rw[List.pairwise_cons]
     refine⟨fun y hy=>?_,abJ (a::l) m h1 h2'.2⟩
     rcases (xq (a::l) m y).1 hy with hy|hy
     ·rcases List.mem_cons.1 hy with rfl|hy
      ·exact uW.2 hlt
      ·exact abw aeG (uW.2 hlt) (h1'.1 y hy)
     ·exact h2'.1 y hy
    ·rename_i k1 k2
     have e:a=b:=by
      rcases aEV a b with h|h|h
      ·exact absurd h k1
      ·exact h
      ·exact absurd h k2
     subst e
     rw[List.pairwise_cons]
     refine⟨fun y hy=>?_,abJ l m h1'.2 h2'.2⟩
     rcases (xq l m y).1 hy with hy|hy
     ·exact h1'.1 y hy
     ·exact h2'.1 y hy
termination_by l m=>l.length+m.length
theorem IW (l:List S):SSs (zU kR l)∧∀ y,y∈zU kR l↔y∈l :=
 ake (D:=fun _=>True) OH aeG (fun _ _ _ _ h=>agr.1 h) l (fun _ _=>trivial)
theorem ahg {l:List S} {m:List S} (h:SSs m) (hm:∀ y,y∈m↔y∈l):m=zU kR l :=
 aoT OH h (IW l).1 fun x=>by rw[hm x,(IW l).2 x]
theorem JH:∀ {l:List S},jh l=true→SSs l∧∀ s∈l,Qb s=true
 | [],_=>by simp[SS]
 | [a],h=>by simp[jh] at h; simp[SS,h]
 | a::b::l,h=>by
   simp only[jh,Bool.and_eq_true] at h
   obtain⟨k1,k2⟩:=JH h.2
   refine⟨?_,fun s hs=>?_⟩
   ·have k1':=k1
    unfold SSs SS at k1 ⊢
    rw[List.pairwise_cons] at k1 ⊢
    refine⟨fun y hy=>?_,k1'⟩
    rcases List.mem_cons.1 hy with rfl|hy
    ·exact uW.2 h.1.2
    ·exact abw aeG (uW.2 h.1.2) (k1.1 y hy)
   ·rcases List.mem_cons.1 hs with rfl|hs
    ·exact h.1.1
    ·exact k2 s hs
theorem ahj:∀ {l:List S},SSs l→(∀ s∈l,Qb s=true)→jh l=true
 | [],_,_=>rfl
 | [a],_,h=>by simpa[jh] using h
 | a::b::l,h,hu=>by
   unfold SSs SS at h
   have h':=List.pairwise_cons.1 h
   simp only[jh,Bool.and_eq_true]
   exact⟨⟨hu a (by simp),uW.1 (h'.1 b (by simp))⟩,ahj h'.2 (fun s hs=>hu s (by simp[hs]))⟩
theorem aC6 {l m:List S} (h:jh l=true) (k:jh m=true):jh (ig l m)=true:=by
 obtain⟨h1,h2⟩:=JH h
 obtain⟨k1,k2⟩:=JH k
 exact ahj (abJ l m h1 k1) fun s hs=>((xq l m s).1 hs).elim (h2 s) (k2 s)
theorem abM (a b:Ob):kU (eu a) (eu b)=mg a b:=by
 simp[eu,kU,ku,dx,pQ,oU,Ordering.then]
 cases mg a b<;>rfl
theorem aFm (o:Ob):∀ l:List Ob,Vk o l=yw mg o l
 | []=>rfl
 | x::l=>by
   simp only[Vk,yw,abM,aFm o l]
   cases mg o x<;>rfl
theorem asy (l:List Ob):jg l=zU mg l:=by
 unfold jg zU
 congr 1
 funext acc o
 exact aFm o acc
def aeL (o:Ob):Prop:=adK o.fields∧aeu o.rest
theorem aE7 {a b:Ob} (ha:aeL a) (hb:aeL b) (h:mg a b=.eq):a=b:=by
 obtain⟨n1,f1,m1,r1⟩:=a
 obtain⟨n2,f2,m2,r2⟩:=b
 have:=ajW [.mk n1 f1 m1 r1] [.mk n2 f2 m2 r2] ⟨ha,trivial⟩ ⟨hb,trivial⟩ (by simp only[oU,h]; rfl)
 simpa using this
theorem aDv (l l' : List Ob) (hl:∀ x∈l,aeL x) (hp:l'.Perm l) (h:l'.Pairwise (fun a b=>mg a b≠.gt)):oO (fun a b=>mg a b == .eq) l'=jg l:=by
 rw[asy]
 exact aFT (D:=aeL) ae7 aoG (fun _ _=>aE7) l l' hl hp h
end Go.Tidy
namespace Go.Tidy
section
variable {α:Type}
def Qz (l:List α) (a b:Nat):List α:=match l[a]?,l[b]? with
 | some x,some y=>(l.set a y).set b x
 | _,_=>l
theorem aHY (l:List α) (a b:Nat):(Qz l a b).length=l.length:=by
 unfold Qz; split<;>simp
def uq (l:List α) (a b:Nat):Nat→List α
 | 0=>l
 | n+1=>Qz (uq l a b n) (a+n) (b+n)
theorem aqC (l:List α) (a b:Nat):∀ n,(uq l a b n).length=l.length
 | 0=>rfl
 | n+1=>by rw[uq,aHY,aqC l a b n]
theorem az5 (P Q R:List α) (u v:α) {a b:Nat} (ha:a=P.length) (hb:b=P.length+1+Q.length):Qz (P++u::(Q++v::R)) a b=P++v::(Q++u::R):=by
 subst ha; subst hb
 have e1:(P++u::(Q++v::R))[P.length]? = some u:=by simp
 have e2:(P++u::(Q++v::R))[P.length+1+Q.length]? = some v:=by
  rw[List.getElem?_append_right (by omega),show P.length+1+Q.length-P.length=Q.length+1 by omega]
  simp
 unfold Qz
 rw[e1,e2]
 simp only
 rw[List.set_append_right _ _ (Nat.le_refl _),Nat.sub_self,List.set_cons_zero,List.set_append_right _ _ (by omega),show P.length+1+Q.length-P.length=Q.length+1 by omega,List.set_cons_succ,List.set_append_right _ _ (Nat.le_refl _),Nat.sub_self,List.set_cons_zero]
theorem avC (P Q R:List α) (u v:α) {a b:Nat} (ha:a=P.length) (hb:b=P.length+1+Q.length):Qz (P++u::(Q++v::R)) b a=P++v::(Q++u::R):=by
 subst ha; subst hb
 have e1:(P++u::(Q++v::R))[P.length]? = some u:=by simp
 have e2:(P++u::(Q++v::R))[P.length+1+Q.length]? = some v:=by
  rw[List.getElem?_append_right (by omega),show P.length+1+Q.length-P.length=Q.length+1 by omega]
  simp
 unfold Qz
 rw[e1,e2]
 simp only
 rw[List.set_append_right _ _ (by omega),show P.length+1+Q.length-P.length=Q.length+1 by omega,List.set_cons_succ,List.set_append_right _ _ (Nat.le_refl _),Nat.sub_self,List.set_cons_zero,List.set_append_right _ _ (Nat.le_refl _),Nat.sub_self,List.set_cons_zero]
theorem uZ {l:List α} {k:Nat} (h:k<l.length):l.drop k=l[k]::l.drop (k+1):=List.drop_eq_getElem_cons h
theorem aBO (p x z y q:List α) {n a b:Nat} (hx:x.length=n) (hy:y.length=n) (ha:a=p.length) (hb:b=p.length+n+z.length) :
 uq (p++x++z++y++q) a b n=p++y++z++x++q:=by
 have key:∀ k,k≤n→uq (p++x++z++y++q) a b k=p++(y.take k++x.drop k)++z++(x.take k++y.drop k)++q:=by
  intro k
  induction k with
  | zero=>intro _; simp[uq]
  | succ k ih =>
    intro hk
    rw[uq,ih (by omega)]
    have h1:k<x.length:=by omega
    have h2:k<y.length:=by omega
    rw[uZ h1,uZ h2,List.take_succ_eq_append_getElem h1,List.take_succ_eq_append_getElem h2]
    have e:=az5 (p++y.take k) (x.drop (k+1)++z++x.take k) (y.drop (k+1)++q) x[k] y[k] (a:=a+k) (b:=b+k) (by simp; omega) (by simp; omega)
    simp only[List.append_assoc,List.cons_append,List.nil_append,List.singleton_append] at e ⊢
    exact e
 rw[key n (Nat.le_refl _)]
 simp[← hx,List.take_of_length_le (show y.length≤x.length by omega),List.drop_of_length_le (show y.length≤x.length by omega)]
variable {f:α→α→Ordering}
def Srt (f:α→α→Ordering) (l:List α):Prop:=l.Pairwise fun a b=>f a b≠.gt
def Tot (f:α→α→Ordering):Prop:=(∀ a b,f b a=(f a b).swap)∧∀ a b d,Q3 (f a b) (f b d) (f a d)
theorem Tot.trans (h:Tot f) {a b d:α} (h1:f a b≠.gt) (h2:f b d≠.gt):f a d≠.gt:=by
 have:=(h.2 a b d).1
 have e:∀ o:Ordering,o≠.gt↔o.isLE=true:=by intro o; cases o<;>simp
 rw[e] at h1 h2 ⊢
 exact this h1 h2
theorem Tot.ay9 (h:Tot f) {a b:α} (h1:f a b=.lt):f a b≠.gt:=by rw[h1]; decide
theorem Tot.nlt (h:Tot f) {a b:α} (h1:f a b≠.lt):f b a≠.gt:=by
 rw[h.1 a b]; cases e:f a b<;>simp_all
theorem Wh (f:α→α→Ordering) {l m:List α}:Srt f (l++m)↔Srt f l∧Srt f m∧∀ a∈l,∀ b∈m,f a b≠.gt:=List.pairwise_append
theorem aLn:Srt f []:=List.Pairwise.nil
theorem aLJ (a:α):Srt f [a]:=List.pairwise_singleton _ _
theorem aa6 {a:α} {l:List α}:Srt f (a::l)↔(∀ b∈l,f a b≠.gt)∧Srt f l:=List.pairwise_cons
theorem aBT {l:List α} (h:Srt f l) (k:Nat):Srt f (l.take k):=List.Pairwise.sublist (List.take_sublist _ _) h
theorem ahz {l:List α} (h:Srt f l) (k:Nat):Srt f (l.drop k):=List.Pairwise.sublist (List.drop_sublist _ _) h
theorem asc {z1 z2:List α} {v:α} (h:Tot f) (hz:Srt f (z1++z2)) (h1:∀ x∈z1.getLast?,f x v≠.gt) (h2:∀ x∈z2,f v x≠.gt):Srt f (z1++v::z2):=by
 obtain⟨a,b,c⟩:=(Wh f).1 hz
 refine (Wh f).2 ⟨a,aa6.2 ⟨h2,b⟩,fun x hx y hy=>?_⟩
 rcases List.mem_cons.1 hy with rfl|hy
 ·cases hl:z1.getLast? with
  | none=>rw[List.getLast?_eq_none_iff] at hl; subst hl; simp at hx
  | some u =>
    rw[hl] at h1
    have hu:=h1 u rfl
    obtain⟨w,rfl⟩:=List.getLast?_eq_some_iff.1 hl
    rcases List.mem_append.1 hx with hx|hx
    ·obtain⟨_,_,d⟩:=(Wh f).1 a
     exact h.trans (d x hx u (by simp)) hu
    ·rw[List.mem_singleton.1 hx]; exact hu
 ·exact c x hx y hy
theorem aHB {y:List α} {u:α} {i:Nat} (h:Tot f) (hy:Srt f y) (hi:i≤y.length) (h1:∀ k (hk:k<y.length),k+1=i→f y[k] u=.lt) (h2:∀ (hk:i<y.length),f y[i] u≠.lt) :
 Srt f (y.take i++u::y.drop i):=by
 refine asc h (by rw[List.take_append_drop]; exact hy) (fun x hx=>?_) (fun x hx=>?_)
 ·cases i with
  | zero=>simp at hx
  | succ i =>
    have e:=List.take_succ_eq_append_getElem (l:=y) (i:=i) (by omega)
    rw[e,List.getLast?_concat] at hx
    simp only[Option.mem_def,Option.some.injEq] at hx
    subst hx
    exact h.ay9 (h1 i (by omega) rfl)
 ·rcases Nat.lt_or_ge i y.length with hlt|hge
  ·rw[uZ hlt] at hx
   have g:=h.nlt (h2 hlt)
   have hd:=ahz hy i
   rw[uZ hlt,aa6] at hd
   rcases List.mem_cons.1 hx with rfl|hx
   ·exact g
   ·exact h.trans g (hd.1 x hx)
  ·rw[List.drop_of_length_le hge] at hx; simp at hx
theorem aIv {y:List α} {u:α} {i:Nat} (h:Tot f) (hy:Srt f y) (hi:i≤y.length) (h1:∀ k (hk:k<y.length),k+1=i→f u y[k]≠.lt) (h2:∀ (hk:i<y.length),f u y[i]=.lt) :
 Srt f (y.take i++u::y.drop i):=by
 refine asc h (by rw[List.take_append_drop]; exact hy) (fun x hx=>?_) (fun x hx=>?_)
 ·cases i with
  | zero=>simp at hx
  | succ i =>
    have e:=List.take_succ_eq_append_getElem (l:=y) (i:=i) (by omega)
    rw[e,List.getLast?_concat] at hx
    simp only[Option.mem_def,Option.some.injEq] at hx
    subst hx
    exact h.nlt (h1 i (by omega) rfl)
 ·rcases Nat.lt_or_ge i y.length with hlt|hge
  ·rw[uZ hlt] at hx
   have g:=h.ay9 (h2 hlt)
   have hd:=ahz hy i
   rw[uZ hlt,aa6] at hd
   rcases List.mem_cons.1 hx with rfl|hx
   ·exact g
   ·exact h.trans g (hd.1 x hx)
  ·rw[List.drop_of_length_le hge] at hx; simp at hx
theorem aHn {x y:List α} {i j:Nat} (h:Tot f) (hx:Srt f x) (hy:Srt f y) (hi:i≤x.length) (hj:j≤y.length)
 (h1:∀ k (hk:k<x.length) (hj' : j<y.length),k+1=i→f y[j] x[k]≠.lt) (h2:∀ k (hk:k<y.length) (hi' : i<x.length),k+1=j→f y[k] x[i]=.lt) :
 ∀ a∈x.take i++y.take j,∀ b∈x.drop i++y.drop j,f a b≠.gt:=by
 have hxs:=(Wh f).1 (show Srt f (x.take i++x.drop i) by rw[List.take_append_drop]; exact hx)
 have hys:=(Wh f).1 (show Srt f (y.take j++y.drop j) by rw[List.take_append_drop]; exact hy)
 intro a ha0 b hb0
 rcases List.mem_append.1 ha0 with ha|ha<;>rcases List.mem_append.1 hb0 with hb|hb<;>clear ha0 hb0
 ·exact hxs.2.2 a ha b hb
 ·
   have hjl:j<y.length:=by
    rcases Nat.lt_or_ge j y.length with g|g
    ·exact g
    ·rw[List.drop_of_length_le g] at hb; simp at hb
   obtain⟨i',rfl⟩ : ∃ i',i=i'+1:=by
    cases i with
    | zero=>simp at ha
    | succ i'=>exact⟨i',rfl⟩
   have g:=h.nlt (h1 i' (by omega) hjl rfl)
   have g1:f a x[i']≠.gt:=by
    rw[List.take_succ_eq_append_getElem (by omega)] at ha
    rcases List.mem_append.1 ha with ha|ha
    ·have:=hxs.1
     rw[List.take_succ_eq_append_getElem (by omega)] at this
     exact ((Wh f).1 this).2.2 a ha _ (by simp)
    ·rw[List.mem_singleton.1 ha]
     rw[aaQ h.1]; decide
   have g2:f y[j] b≠.gt:=by
    have hb' : b∈y[j]::y.drop (j+1):=by rw[← uZ hjl]; exact hb
    have hd:=hys.2.1
    rw[uZ hjl,aa6] at hd
    rcases List.mem_cons.1 hb' with rfl|hb'
    ·rw[aaQ h.1]; decide
    ·exact hd.1 b hb'
   exact h.trans (h.trans g1 g) g2
 ·have hil:i<x.length:=by
     rcases Nat.lt_or_ge i x.length with g|g
     ·exact g
     ·rw[List.drop_of_length_le g] at hb; simp at hb
  obtain⟨j',rfl⟩ : ∃ j',j=j'+1:=by
   cases j with
   | zero=>simp at ha
   | succ j'=>exact⟨j',rfl⟩
  have g:=h.ay9 (h2 j' (by omega) hil rfl)
  have g1:f a y[j']≠.gt:=by
   rw[List.take_succ_eq_append_getElem (by omega)] at ha
   rcases List.mem_append.1 ha with ha|ha
   ·have:=hys.1
    rw[List.take_succ_eq_append_getElem (by omega)] at this
    exact ((Wh f).1 this).2.2 a ha _ (by simp)
   ·rw[List.mem_singleton.1 ha]
    rw[aaQ h.1]; decide
  have g2:f x[i] b≠.gt:=by
   have hb' : b∈x[i]::x.drop (i+1):=by rw[← uZ hil]; exact hb
   have hd:=hxs.2.1
   rw[uZ hil,aa6] at hd
   rcases List.mem_cons.1 hb' with rfl|hb'
   ·rw[aaQ h.1]; decide
   ·exact hd.1 b hb'
  exact h.trans (h.trans g1 g) g2
 ·exact hys.2.2 a ha b hb
theorem aKe {z1 z2 l m:List α} (h1:Srt f z1) (h2:Srt f z2) (p1:z1.Perm l) (p2:z2.Perm m) (hc:∀ a∈l,∀ b∈m,f a b≠.gt):Srt f (z1++z2) :=
 (Wh f).2 ⟨h1,h2,fun a ha b hb=>hc a (p1.mem_iff.1 ha) b (p2.mem_iff.1 hb)⟩
end
end Go.Tidy
namespace Go.Tidy
section
variable {α:Type} {e:α→α→Bool}
def abg (e:α→α→Bool):α→List α→List α
 | _,[]=>[]
 | p,x::l=>if e x p then abg e x l else x::abg e x l
theorem aqj (a:α) (l:List α):oO e (a::l)=a::abg e a l:=by
 induction l generalizing a with
 | nil=>rfl
 | cons b l ih =>
   simp only[oO]
   rw[ih b]
   split
   ·rename_i h; simp[abg,h]
   ·rename_i h; simp[abg,h]
theorem aqH (x:α):∀ (l:List α) (p:α),abg e p (l++[x])=abg e p l++(if e x ((p::l).getLast (by simp)) then [] else [x])
 | [],p=>by by_cases h:e x p=true<;>simp[abg,h]
 | y::l,p=>by
   have ih:=aqH x l y
   have hl:(p::y::l).getLast (by simp)=(y::l).getLast (by simp):=List.getLast_cons (by simp)
   rw[hl]
   by_cases h:e y p=true
   ·simp only[List.cons_append,abg,h,if_true]
    exact ih
   ·simp only[List.cons_append,abg,h,if_false,Bool.false_eq_true]
    exact congrArg (y::·) ih
theorem ail {l:List α} {j:Nat} (h0:0<j) (hj:j<l.length):oO e (l.take (j+1))=oO e (l.take j)++(if e l[j] l[j-1] then [] else [l[j]]):=by
 cases l with
 | nil=>simp at hj
 | cons a l =>
   obtain⟨i,rfl⟩ : ∃ i,j=i+1:=⟨j-1,by omega⟩
   simp only[List.length_cons] at hj
   have hi:i<l.length:=by omega
   rw[List.take_succ_cons,List.take_succ_cons,aqj,aqj,List.take_succ_eq_append_getElem hi,aqH,List.cons_append]
   congr 3
   ·have hlast:(a::l.take i).getLast (by simp)=(a::l)[i]'(by simp; omega):=by
       rw[List.getLast_eq_getElem]
       cases i with
       | zero=>simp
       | succ i=>simp[List.length_take,Nat.min_eq_left (Nat.le_of_lt hi)]
    rw[hlast]
    simp
theorem akK {l:List α} (h:∀ j (hj:j<l.length),0<j→e l[j] l[j-1]=false):oO e l=l:=by
 have key:∀ k,k≤l.length→oO e (l.take k)=l.take k:=by
  intro k
  induction k with
  | zero=>intro _; simp[oO]
  | succ k ih =>
    intro hk
    rcases Nat.eq_zero_or_pos k with rfl|h0
    ·cases l with
     | nil=>simp at hk
     | cons a l=>simp[oO]
    ·rw[ail h0 (by omega),ih (by omega),h k (by omega) h0]
     simp only[Bool.false_eq_true,if_false]
     exact (List.take_succ_eq_append_getElem (by omega)).symm
 simpa using key l.length (Nat.le_refl _)
end
theorem aDW (kept:List Ob) (o:Ob) (l:List Ob):dN kept (o::l)=if kept.any (mQ o)||l.any (mQ o) then dN kept l else dN (kept++[o]) l:=by rw[dN]
theorem aGc (kept:List Ob):dN kept []=kept:=by rw[dN]
end Go.Tidy
namespace Go.Proofs.YtfilonnphgnplaaGreatDoor.Pv
open Go Go.Tidy
theorem ad3:∀ a b:List UInt8,Op.bytesLess a b=decide (a<b)
 | [],[]=>by simp[Op.bytesLess]
 | [],_::_=>by simp[Op.bytesLess]
 | _::_,[]=>by simp[Op.bytesLess]
 | x::a,y::b=>by
   simp only[Op.bytesLess,ad3 a b,List.cons_lt_cons_iff]
   by_cases h1:x<y<;>by_cases h2:x=y<;>simp[h1,h2]
theorem aHc {a b:List UInt8} (h:a≤b) (hne:a≠b):a<b:=by
 rcases Classical.em (a<b) with k|k
 ·exact k
 ·exact absurd (List.le_antisymm h (List.not_lt.1 k)) hne
theorem auD (d:Array (List UInt8)) (hs:∀ i j,i<j→j<d.size→d[i]! ≤ d[j]!):∀ m,m≤d.size →
 (Go.Lib.compactUpTo d m).Pairwise (· < ·)∧(∀ x,x∈Go.Lib.compactUpTo d m↔∃ j,j<m∧d[j]! = x):=by
 intro m
 induction m with
 | zero=>intro _; exact⟨by simp[Go.Lib.compactUpTo],fun x=>by simp[Go.Lib.compactUpTo]⟩
 | succ m ih =>
   intro hm
   obtain⟨h1,h2⟩:=ih (by omega)
   rw[Go.Lib.compactUpTo_succ]
   by_cases hk:Go.Lib.keeps d m=true
   ·rw[if_pos hk]
    refine⟨List.pairwise_append.2 ⟨h1,by simp,fun a ha b hb=>?_⟩,fun x=>?_⟩
    ·obtain rfl:b=d[m]! := by simpa using hb
     obtain⟨j,hj,rfl⟩:=(h2 a).1 ha
     have hm0:m≠0:=by omega
     have hne:d[m]!≠d[m-1]! := by
      intro e
      rw[Go.Lib.keeps_neg (by omega) e] at hk; cases hk
     have k1:d[m-1]! < d[m]! := aHc (hs (m-1) m (by omega) (by omega)) (fun e=>hne e.symm)
     by_cases e:j=m-1
     ·rw[e]; exact k1
     ·exact List.lt_of_le_of_lt (hs j (m-1) (by omega) (by omega)) k1
    ·rw[List.mem_append,h2 x]
     constructor
     ·rintro (⟨j,hj,e⟩|h)
      ·exact⟨j,by omega,e⟩
      ·exact⟨m,by omega,by simpa using (List.mem_singleton.1 h).symm⟩
     ·rintro⟨j,hj,e⟩
      by_cases ej:j=m
      ·subst ej; exact .inr (by simp[e])
      ·exact .inl ⟨j,by omega,e⟩
   ·have hk' : Go.Lib.keeps d m=false:=by simpa using hk
    rw[if_neg hk,List.append_nil]
    refine⟨h1,fun x=>?_⟩
    rw[h2 x]
    constructor
    ·rintro⟨j,hj,e⟩; exact⟨j,by omega,e⟩
    ·rintro⟨j,hj,e⟩
     by_cases ej:j=m
     ·subst ej
      have hj0:j≠0:=by
       intro e0; subst e0
       rw[Go.Lib.keeps_lt_one d 0 (by omega)] at hk'; cases hk'
      have hd:d[j]! = d[j-1]! := by
       rcases Classical.em (d[j]! = d[j-1]!) with k|k
       ·exact k
       ·rw[Go.Lib.keeps_pos k] at hk'; cases hk'
      exact⟨j-1,by omega,by rw[← hd]; exact e⟩
     ·exact⟨j,by omega,e⟩
theorem aB9 (l:List S):o8 (yt l)=zU kR l:=by
 have hmap:((yt l).map fun s=>s.data.toList)=(l.map fun s=>s.data.toList).mergeSort fun x y=>decide (x≤y):=by
  unfold yt
  rw[List.map_map]
  have:((fun s:ByteArray=>s.data.toList)∘fun x:List UInt8=>(⟨x.toArray⟩ : ByteArray))=id:=by funext x; simp
  rw[this,List.map_id]
 generalize hz:((l.map fun s=>s.data.toList).mergeSort fun x y=>decide (x≤y))=z at *
 have hp:z.Pairwise (fun a b=>a≤b):=by
  rw[← hz]
  have:=List.pairwise_mergeSort (le:=fun x y:List UInt8=>decide (x≤y)) (fun a b c h k=>by simp only[decide_eq_true_eq] at *; exact List.le_trans h k) (fun a b=>by simp only[Bool.or_eq_true,decide_eq_true_eq]; exact List.le_total a b) (l.map fun s=>s.data.toList)
  exact this.imp (by simp)
 obtain⟨h1,h2⟩:=auD z.toArray (fun i j hij hj=>by
  have hj' : j<z.length:=by simpa using hj
  rw[getElem!_pos _ i (by simp; omega),getElem!_pos _ j hj]
  exact List.pairwise_iff_getElem.1 hp i j (by omega) hj' hij) z.length (by simp)
 refine ahg ?_ fun y=>?_
 ·unfold o8 Go.Lib.compact
  rw[hmap]
  refine List.pairwise_map.2 (h1.imp fun {a b} h=>?_)
  rw[uW]
  show Op.bytesLess _ _=true
  rw[ad3]
  simpa using h
 ·unfold o8 Go.Lib.compact
  rw[hmap,List.mem_map]
  constructor
  ·rintro⟨x,hx,rfl⟩
   obtain⟨j,hj,e⟩:=(h2 x).1 hx
   rw[getElem!_pos _ j (by simpa using hj)] at e
   have hm:x∈z:=by rw[← e]; simp
   rw[← hz,List.mem_mergeSort] at hm
   obtain⟨s,hs,rfl⟩:=List.mem_map.1 hm
   simpa using hs
  ·intro hy
   have hm:y.data.toList∈z:=by
    rw[← hz,List.mem_mergeSort]; exact List.mem_map.2 ⟨y,hy,rfl⟩
   obtain⟨j,hj,e⟩:=List.getElem_of_mem hm
   refine⟨y.data.toList,(h2 _).2 ⟨j,hj,?_⟩,by simp⟩
   rw[getElem!_pos _ j (by simpa using hj)]
   simpa using e
end Go.Proofs.YtfilonnphgnplaaGreatDoor.Pv
namespace Go.Tidy
open Go
mutual
def nmT (n:Nat):Ty→Bool
 | .mk _ _ _ _ _ _ _ as os=>aj6 n as&&ajB n os
def aj6 (n:Nat):List Arr→Bool
 | []=>true
 | .mk t _ _::l=>nmT n t&&aj6 n l
def ajB (n:Nat):List Ob→Bool
 | []=>true
 | .mk ns fs _ r::l=>decide (ns.length≤n)&&ane n fs&&nmT n r&&ajB n l
def ane (n:Nat):List Ty→Bool
 | []=>true
 | t::l=>nmT n t&&ane n l
end
theorem aJA {n:Nat} {l:List Arr} (h:aj6 n l=true) {a:Arr} (ha:a∈l):nmT n a.item=true:=by
 induction l with
 | nil=>simp at ha
 | cons b l ih =>
   obtain⟨t,lo,hi⟩:=b
   simp only[aj6,Bool.and_eq_true] at h
   rcases List.mem_cons.1 ha with rfl|ha
   ·exact h.1
   ·exact ih h.2 ha
theorem aKb {n:Nat} {l:List Ty} (h:ane n l=true) {a:Ty} (ha:a∈l):nmT n a=true:=by
 induction l with
 | nil=>simp at ha
 | cons b l ih =>
   simp only[ane,Bool.and_eq_true] at h
   rcases List.mem_cons.1 ha with rfl|ha
   ·exact h.1
   ·exact ih h.2 ha
theorem aou {n:Nat} {l:List Ob} (h:ajB n l=true) {o:Ob} (ho:o∈l):o.names.length≤n∧(∀ t∈o.fields,nmT n t=true)∧nmT n o.rest=true:=by
 induction l with
 | nil=>simp at ho
 | cons b l ih =>
   obtain⟨ns,fs,ms,r⟩:=b
   simp only[ajB,Bool.and_eq_true,decide_eq_true_eq] at h
   rcases List.mem_cons.1 ho with rfl|ho
   ·exact⟨h.1.1.1,fun t ht=>aKb h.1.1.2 ht,h.1.2⟩
   ·exact ih h.2 ho
theorem alH {n:Nat} (t:Ty):nmT n t=(aj6 n t.arrays&&ajB n t.objects):=by cases t; rfl
theorem gY {a:Arr} (h:iw a=true):0≤a.min∧-1≤a.max∧(a.max<0∨a.min≤a.max)∧ak a.item=true∧(never a.item=true↔a.max=0):=by
 obtain⟨t,lo,hi⟩:=a
 simp only[iw,Bool.and_eq_true,Bool.or_eq_true,decide_eq_true_eq,beq_iff_eq] at h
 refine⟨h.1.1.1.1,h.1.1.1.2,h.1.1.2,h.1.2,?_⟩
 show never t=true↔hi=0
 rw[h.2,decide_eq_true_eq]
theorem dz {o:Ob} (h:bf o=true):o.names.length=o.fields.length∧o.names.length=o.must.length∧jh o.names=true∧ak o.rest=true∧(∀ f∈o.fields,ak f=true)∧∀ p∈o.fields.zip o.must,p.2=true→never p.1=false:=by
 obtain⟨ns,fs,ms,r⟩:=o
 simp only[bf,Bool.and_eq_true,decide_eq_true_eq,Oo,List.all_eq_true,Bool.or_eq_true,Bool.not_eq_true'] at h
 refine⟨h.1.1.1.1.1,h.1.1.1.1.2,h.1.1.1.2,h.1.1.2,h.1.2,fun p hp hm=>?_⟩
 rcases h.2 p hp with h|h
 ·rw[hm] at h; cases h
 ·exact h
theorem cu {t:Ty} (h:ak t=true):(t.all=true→bare t=true)∧jh t.texts=true∧(t.any=true→t.texts=[])∧t.nums.length≤1∧(∀ s∈t.nums,jq s=true)∧t.arrays.length≤1∧(∀ a∈t.arrays,iw a=true)∧∀ o∈t.objects,bf o=true:=by
 obtain⟨a,b,c,d,ns,e,ts,as,os⟩:=t
 simp only[ak,Bool.and_eq_true,Bool.or_eq_true,Bool.not_eq_true',decide_eq_true_eq,Ow,NU,List.all_eq_true,List.isEmpty_iff] at h
 refine⟨fun ha=>?_,h.1.1.1.1.1.1.2,fun he=>?_,h.1.1.1.1.2,h.1.1.1.2,h.1.1.2,h.1.2,h.2⟩
 ·rcases h.1.1.1.1.1.1.1 with h|h
  ·exact absurd ha (by show ¬ a=true; rw[h]; simp)
  ·exact h
 ·rcases h.1.1.1.1.1.2 with h|h
  ·exact absurd he (by show ¬ e=true; rw[h]; simp)
  ·exact h
end Go.Tidy
namespace Go.Tidy
open Go
theorem UY {a:Arr} (h1:0≤a.min) (h2 : -1≤a.max) (h3:a.max<0∨a.min≤a.max) (h4:ak a.item=true) (h5:never a.item=true↔a.max=0):iw a=true:=by
 obtain⟨t,lo,hi⟩:=a
 simp only[Arr.min,Arr.max,Arr.item] at *
 simp only[iw,Bool.and_eq_true,Bool.or_eq_true,decide_eq_true_eq,beq_iff_eq]
 refine⟨⟨⟨⟨h1,h2⟩,h3⟩,h4⟩,?_⟩
 cases hn:never t
 ·have:¬ hi=0:=fun h=>by have:=h5.2 h; rw[hn] at this; cases this
  simp[this]
 ·simp[h5.1 hn]
theorem JQ {o:Ob} (h1:o.names.length=o.fields.length) (h2:o.names.length=o.must.length) (h3:jh o.names=true) (h4:ak o.rest=true) (h5:∀ f∈o.fields,ak f=true) (h6:∀ p∈o.fields.zip o.must,p.2=true→never p.1=false):bf o=true:=by
 obtain⟨ns,fs,ms,r⟩:=o
 simp only[Ob.names,Ob.fields,Ob.must,Ob.rest] at *
 simp only[bf,Bool.and_eq_true,decide_eq_true_eq,Oo,List.all_eq_true,Bool.or_eq_true,Bool.not_eq_true']
 refine⟨⟨⟨⟨⟨h1,h2⟩,h3⟩,h4⟩,h5⟩,fun p hp=>?_⟩
 cases hm:p.2
 ·exact .inl rfl
 ·exact .inr (h6 p hp hm)
theorem UW {t:Ty} (h1:t.all=true→bare t=true) (h2:jh t.texts=true) (h3:t.any=true→t.texts=[]) (h4:t.nums.length≤1) (h5:∀ s∈t.nums,jq s=true) (h6:t.arrays.length≤1) (h7:∀ a∈t.arrays,iw a=true) (h8:∀ o∈t.objects,bf o=true):ak t=true:=by
 obtain⟨a,b,c,d,ns,e,ts,as,os⟩:=t
 simp only[Ty.all,Ty.texts,Ty.any,Ty.nums,Ty.arrays,Ty.objects] at *
 simp only[ak,Bool.and_eq_true,Bool.or_eq_true,Bool.not_eq_true',decide_eq_true_eq,Ow,NU,List.all_eq_true,List.isEmpty_iff]
 refine⟨⟨⟨⟨⟨⟨⟨?_,h2⟩,?_⟩,h4⟩,h5⟩,h6⟩,h7⟩,h8⟩
 ·cases a
  ·exact .inl rfl
  ·exact .inr (h1 rfl)
 ·cases e
  ·exact .inl rfl
  ·exact .inr (h3 rfl)
theorem ZQ:ak dn=true:=by simp[dn,ak,jh,bare,Oq,Pz,Ty.null,Ty.fls,Ty.tru,Ty.any,Ty.nums,Ty.texts,Ty.arrays,Ty.objects]
theorem akj:ak d9=true:=by simp[d9,ak,jh,bare,Oq,Pz,Ty.null,Ty.fls,Ty.tru,Ty.any,Ty.nums,Ty.texts,Ty.arrays,Ty.objects]
theorem aJS {t:Ty} (h:bare t=true):t=.mk t.all false false false [] false [] [] []:=by
 obtain⟨a,b,c,d,ns,e,ts,as,os⟩:=t
 simp only[bare,Ty.null,Ty.fls,Ty.tru,Ty.any,Ty.nums,Ty.texts,Ty.arrays,Ty.objects,Bool.and_eq_true,Bool.not_eq_true',List.isEmpty_iff] at h
 obtain⟨⟨⟨⟨⟨⟨⟨rfl,rfl⟩,rfl⟩,rfl⟩,rfl⟩,rfl⟩,rfl⟩,rfl⟩:=h
 rfl
theorem aHf {t:Ty} (h:ak t=true) (ha:t.all=true):t=dn:=by
 have:=aJS ((cu h).1 ha)
 rw[this,ha]; rfl
theorem aAE (l:List S):ig [] l=l:=by simp[ig]
theorem Uf (l:List Arr):jM l []=l:=by cases l<;>simp[jM]
theorem Dn (l:List Arr):jM [] l=l:=by simp[jM]
theorem zH (x t:Ty):jO x t=if x.all||t.all then dn else .mk false (x.null||t.null) (x.fls||t.fls) (x.tru||t.tru) (yT x.nums t.nums) (x.any||t.any) (if x.any||t.any then [] else ig x.texts t.texts) (jM x.arrays t.arrays) (x.objects++t.objects):=by
 cases x; simp only[jO]; rfl
theorem aaW (a b:Arr):acH a b=.mk (jO a.item b.item) (if b.min<a.min then b.min else a.min) (if a.max<0∨b.max<0 then -1 else if b.max > a.max then b.max else a.max):=by
 cases a; simp only[acH]; rfl
theorem apa {x:Ty} (h:ak x=true):jO d9 x=x:=by
 rw[zH]
 cases ha:x.all
 ·obtain⟨a,b,c,d,ns,e,ts,as,os⟩:=x
  have h3:=(cu h).2.2.1
  simp only[Ty.all] at ha
  subst ha
  simp only[d9,Ty.all,Ty.null,Ty.fls,Ty.tru,Ty.nums,Ty.any,Ty.texts,Ty.arrays,Ty.objects,Bool.or_false,Bool.false_or,Bool.false_eq_true,if_false,yT,Dn,List.nil_append,aAE] at *
  cases e
  ·rfl
  ·rw[h3 rfl]; rfl
 ·rw[aHf h ha]; rfl
theorem VO {t:Ty}:never t=true↔t.all=false∧t.null=false∧t.fls=false∧t.tru=false∧t.any=false∧t.nums=[]∧t.texts=[]∧t.arrays=[]∧t.objects=[]:=by
 simp only[never,bare,Bool.and_eq_true,Bool.not_eq_true',List.isEmpty_iff,and_assoc]
theorem aKd {a b:List Span}:yT a b=[]↔a=[]∧b=[]:=by cases a<;>cases b<;>simp[yT]
theorem aqg {a b:List S}:ig a b=[]↔a=[]∧b=[]:=by
 cases a<;>cases b<;>simp[ig]
 repeat' split
 all_goals simp
theorem aHH {a b:List Arr}:jM a b=[]↔a=[]∧b=[]:=by cases a<;>cases b<;>simp[jM]
theorem aqF (a b:Ty):never (jO a b)=(never a&&never b):=by
 rw[Bool.eq_iff_iff,Bool.and_eq_true,VO,VO,VO,zH]
 cases h1:a.all<;>cases h2:b.all<;>simp[dn,Ty.all,aKd,aHH,Ty.null,Ty.fls,Ty.tru,Ty.nums,Ty.any,Ty.texts,Ty.arrays,Ty.objects]
 rw[← h1.symm.symm,← h2] at *
 constructor
 ·rintro⟨⟨e1,e2⟩,⟨e3,e4⟩,⟨e5,e6⟩,⟨e7,e8⟩,⟨e9,e10⟩,e11,⟨e12,e13⟩,e14,e15⟩
  rw[e7,e8] at e11
  have:=aqg.1 (e11 rfl rfl)
  exact⟨⟨e1,e3,e5,e7,e9,this.1,e12,e14⟩,e2,e4,e6,e8,e10,this.2,e13,e15⟩
 ·rintro⟨⟨e1,e3,e5,e7,e9,e,e12,e14⟩,e2,e4,e6,e8,e10,e',e13,e15⟩
  exact⟨⟨e1,e2⟩,⟨e3,e4⟩,⟨e5,e6⟩,⟨e7,e8⟩,⟨e9,e10⟩,fun _ _=>aqg.2 ⟨e,e'⟩,⟨e12,e13⟩,e14,e15⟩
theorem apn:gu ByteArray.empty=true:=by simp[gu,fU]
theorem aFE {a b:S} (ha:gu a=true) (hb:gu b=true):gu (adT a b)=true:=by
 unfold adT; split
 ·exact apn
 ·split
  ·exact ha
  ·exact hb
theorem aDL {a b:S} (ha:gu a=true) (hb:gu b=true):gu (ZM a b)=true:=by
 unfold ZM; split
 ·exact apn
 ·split
  ·exact ha
  ·exact hb
theorem abQ {s:Span}:jq s=true↔gu s.low=true∧gu s.high=true∧(fU s.low=false→fU s.high=false→(fQ s.low s.high).isLE=true):=by
 simp only[jq,Bool.and_eq_true,Bool.or_eq_true,and_assoc]
 refine and_congr Iff.rfl (and_congr Iff.rfl ?_)
 cases fU s.low<;>cases fU s.high<;>simp
theorem isLE_swap {a b:S} (h:(fQ a b).isLE=false):(fQ b a).isLE=true:=by rw[afZ]; revert h; cases fQ a b<;>simp
theorem le_trans' {a b d:S} (h:(fQ a b).isLE=true) (k:(fQ b d).isLE=true):(fQ a d).isLE=true:=(azG a b d).1 h k
theorem aIN {a b:Span} (ha:jq a=true) (hb:jq b=true):jq ⟨adT a.low b.low,ZM a.high b.high⟩=true:=by
 rw[abQ] at *
 obtain⟨a1,a2,a3⟩:=ha
 obtain⟨b1,b2,b3⟩:=hb
 refine⟨aFE a1 b1,aDL a2 b2,fun h1 h2=>?_⟩
 simp only[] at h1 h2 ⊢
 have e0:fU ByteArray.empty=true:=by simp[fU]
 cases p1:fU a.low<;>cases p2:fU b.low<;>simp[adT,p1,p2,e0] at h1
 cases p3:fU a.high<;>cases p4:fU b.high<;>simp[ZM,p3,p4,e0] at h2
 have ka:=a3 p1 p3
 have kb:=b3 p2 p4
 simp only[adT,ZM,p1,p2,p3,p4,Bool.or_self,Bool.false_eq_true,if_false]
 cases c1:(fQ a.low b.low).isLE<;>cases c2:(fQ a.high b.high).isGE<;>simp only[if_true,if_false,Bool.false_eq_true]
 ·exact kb
 ·exact le_trans' (isLE_swap c1) ka
 ·exact le_trans' c1 kb
 ·exact ka
theorem amK {a b:List Span} (ha:∀ s∈a,jq s=true) (hb:∀ s∈b,jq s=true):∀ s∈yT a b,jq s=true:=by
 intro s hs
 match a,b with
 | [],b=>exact hb s hs
 | x::a,[]=>exact ha s hs
 | x::a,y::b =>
   simp only[yT,List.mem_singleton] at hs
   subst hs
   exact aIN (ha x (by simp)) (hb y (by simp))
theorem aAl {a b:List Span} (ha:a.length≤1) (hb:b.length≤1):(yT a b).length≤1:=by
 match a,b with
 | [],b=>exact hb
 | x::a,[]=>exact ha
 | x::a,y::b=>simp[yT]
mutual
theorem aa7:∀ a b:Ty,ak a=true→ak b=true→ak (jO a b)=true
 | .mk a1 a2 a3 a4 a5 a6 a7 a8 a9,b,ha,hb=>by
   rw[zH]
   have hA:=cu ha
   have hB:=cu hb
   split
   ·exact ZQ
   ·refine UW (fun h=>by simp[Ty.all] at h) ?_ (fun h=>?_) (aAl hA.2.2.2.1 hB.2.2.2.1) (amK hA.2.2.2.2.1 hB.2.2.2.2.1) ?_ (fun x hx=>?_) (fun o ho=>?_)
    ·simp only[Ty.rU]
     split
     ·rfl
     ·exact aC6 hA.2.1 hB.2.1
    ·exact if_pos h
    ·exact avA a8 b.arrays hA.2.2.2.2.2.1 hB.2.2.2.2.2.1
    ·exact ajH a8 b.arrays hA.2.2.2.2.2.2.1 hB.2.2.2.2.2.2.1 x hx
    ·simp only[Ty.qz,List.mem_append] at ho
     rcases ho with ho|ho
     ·exact hA.2.2.2.2.2.2.2 o ho
     ·exact hB.2.2.2.2.2.2.2 o ho
theorem avA:∀ a b:List Arr,a.length≤1→b.length≤1→(jM a b).length≤1
 | [],b,_,hb=>by simpa[jM] using hb
 | x::a,[],ha,_=>by simpa[jM] using ha
 | x::a,y::b,_,_=>by simp[jM]
theorem ajH:∀ a b:List Arr,(∀ x∈a,iw x=true)→(∀ x∈b,iw x=true)→∀ x∈jM a b,iw x=true
 | [],b,_,hb=>by simpa[jM] using hb
 | x::a,[],ha,_=>by simpa[jM] using ha
 | .mk t lo hi::a,y::b,ha,hb=>by
   intro z hz
   simp only[jM,List.mem_singleton] at hz
   subst hz
   obtain⟨x1,x2,x3,x4,x5⟩:=gY (ha (.mk t lo hi) (by simp))
   obtain⟨y1,y2,y3,y4,y5⟩:=gY (hb y (by simp))
   simp only[Arr.aBH,Arr.ape,Arr.QB] at x1 x2 x3 x4 x5
   have e:acH (.mk t lo hi) y=.mk (jO t y.item) (if y.min<lo then y.min else lo) (if hi<0∨y.max<0 then -1 else if y.max > hi then y.max else hi):=aaW _ _
   rw[e]
   refine UY ?_ ?_ ?_ (aa7 t _ x4 y4) ?_
   ·simp only[Arr.aBH]; split<;>assumption
   ·simp only[Arr.ape]; repeat' split
    all_goals omega
   ·simp only[Arr.aBH,Arr.ape]; repeat' split
    all_goals omega
   ·simp only[Arr.ape,Arr.QB]
    rw[aqF,Bool.and_eq_true,x5,y5]
    constructor
    ·rintro⟨h1,h2⟩
     rw[if_neg (by omega),if_neg (by omega)]; exact h1
    ·intro h
     repeat' split at h
     all_goals omega
end
theorem am7 (l:List Ty) (h:∀ t∈l,ak t=true):∀ acc,ak acc=true→ak (l.foldl jO acc)=true:=by
 induction l with
 | nil=>intro acc ha; exact ha
 | cons t l ih=>intro acc ha; exact ih (fun x hx=>h x (by simp[hx])) _ (aa7 acc t ha (h t (by simp)))
theorem LG {l:List Ty} (h:∀ t∈l,ak t=true):ak (oh l)=true:=am7 l h _ akj
theorem aGU (l:List Ty):∀ acc,never (l.foldl jO acc)=(never acc&&l.all never):=by
 induction l with
 | nil=>intro acc; simp
 | cons t l ih=>intro acc; rw[List.foldl_cons,ih,aqF,List.all_cons,Bool.and_assoc]
theorem aFF (l:List Ty):never (oh l)=l.all never:=by
 rw[oh,aGU]
 have:never d9=true:=by simp[never,bare,d9,Ty.all,Ty.null,Ty.fls,Ty.tru,Ty.nums,Ty.any,Ty.texts,Ty.arrays,Ty.objects]
 rw[this,Bool.true_and]
theorem azD {x y:Ty} (h:ak x=true):oh [x,y]=jO x y:=by show jO (jO d9 x) y=_; rw[apa h]
theorem aoZ {l m:List S} (h:∀ y,y∈l↔y∈m):zU kR l=zU kR m:=ahg (IW l).1 fun y=>((IW l).2 y).trans (h y)
def Ay (l:List Ty):Ty :=
 if l.any Ty.all then dn else
 .mk false (l.any Ty.null) (l.any Ty.fls) (l.any Ty.tru) (l.foldl (fun a t=>yT a t.nums) []) (l.any Ty.any) (if l.any Ty.any then [] else zU kR (l.flatMap Ty.texts)) (l.foldl (fun a t=>jM a t.arrays) []) (l.flatMap Ty.objects)
theorem aG3 (l:List Ty):l.foldl jO dn=dn:=by
 induction l with
 | nil=>rfl
 | cons t l ih =>
   rw[List.foldl_cons]
   have:jO dn t=dn:=by rw[zH]; simp[dn]
   rw[this,ih]
theorem aIx (l:List Ty) (h:∀ t∈l,ak t=true):∀ acc:Ty,ak acc=true→acc.all=false →
 l.foldl jO acc=if l.any Ty.all then dn else .mk false (acc.null||l.any Ty.null) (acc.fls||l.any Ty.fls) (acc.tru||l.any Ty.tru) (l.foldl (fun a t=>yT a t.nums) acc.nums) (acc.any||l.any Ty.any)
  (if acc.any||l.any Ty.any then [] else zU kR (acc.texts++l.flatMap Ty.texts)) (l.foldl (fun a t=>jM a t.arrays) acc.arrays) (acc.objects++l.flatMap Ty.objects):=by
 induction l with
 | nil =>
   intro acc ha h0
   have hA:=cu ha
   obtain⟨a,b,c,d,ns,e,ts,as,os⟩:=acc
   simp only[Ty.all_mk] at h0
   subst h0
   simp only[List.foldl_nil,List.any_nil,Bool.or_false,Bool.false_eq_true,if_false,List.flatMap_nil,List.append_nil,Ty.alc,Ty.apV,Ty.aqI,Ty.adB,Ty.any_mk,Ty.rU,Ty.sw,Ty.qz]
   congr 1
   cases e
   ·exact ahg (JH hA.2.1).1 fun _=>Iff.rfl
   ·exact hA.2.2.1 rfl
 | cons t l ih =>
   intro acc ha h0
   have ht:=h t (by simp)
   have hT:=cu ht
   have hA:=cu ha
   rw[List.foldl_cons]
   cases h1:t.all
   ·have e0:jO acc t=.mk false (acc.null||t.null) (acc.fls||t.fls) (acc.tru||t.tru) (yT acc.nums t.nums) (acc.any||t.any) (if acc.any||t.any then [] else ig acc.texts t.texts) (jM acc.arrays t.arrays) (acc.objects++t.objects):=by
       rw[zH,h0,h1]; rfl
    rw[ih (fun x hx=>h x (by simp[hx])) (jO acc t) (aa7 acc t ha ht) (by rw[e0]; rfl)]
    rw[List.any_cons,h1,Bool.false_or]
    split
    ·rfl
    ·rw[e0]
     simp only[List.any_cons,List.foldl_cons,List.flatMap_cons,Ty.alc,Ty.apV,Ty.aqI,Ty.adB,Ty.any_mk,Ty.rU,Ty.sw,Ty.qz,Bool.or_assoc,List.append_assoc]
     congr 1
     cases e1:acc.any<;>cases e2:t.any<;>cases e3:l.any Ty.any<;>simp
     refine aoZ fun y=>?_
     simp[xq,or_assoc]
   ·have e0:jO acc t=dn:=by rw[zH,h1]; simp
    rw[e0,aG3,List.any_cons,h1]
    simp
theorem amH (l:List Ty) (h:∀ t∈l,ak t=true):Ay l=oh l:=by
 rw[oh,aIx l h d9 akj rfl]
 unfold Ay
 simp[d9]
end Go.Tidy
namespace Go.Tidy
open Go
mutual
theorem ale:∀ t:Ty,ak t=true→aeu t
 | .mk a b c d ns e ts as os,h=>by
   have hs:=cu h
   exact⟨aB7 as hs.2.2.2.2.2.2.1,az3 os hs.2.2.2.2.2.2.2⟩
theorem aB7:∀ l:List Arr,(∀ a∈l,iw a=true)→agH l
 | [],_=>trivial
 | .mk t lo hi::l,h=>by
   obtain⟨-,h2,-,h4,-⟩:=gY (h (.mk t lo hi) (by simp))
   exact⟨⟨h2,ale t h4⟩,aB7 l fun a ha=>h a (by simp[ha])⟩
theorem az3:∀ l:List Ob,(∀ a∈l,bf a=true)→agl l
 | [],_=>trivial
 | .mk ns fs ms r::l,h=>by
   obtain⟨-,-,-,h4,h5,-⟩:=dz (h (.mk ns fs ms r) (by simp))
   exact⟨⟨anI fs h5,ale r h4⟩,az3 l fun a ha=>h a (by simp[ha])⟩
theorem anI:∀ l:List Ty,(∀ a∈l,ak a=true)→adK l
 | [],_=>trivial
 | t::l,h=>⟨ale t (h t (by simp)),anI l fun a ha=>h a (by simp[ha])⟩
end
theorem aso {o:Ob} (h:bf o=true):aeL o:=by
 obtain⟨-,-,-,h4,h5,-⟩:=dz h
 exact⟨anI _ h5,ale _ h4⟩
theorem oH {o:Ob} (h:bf o=true):ak (eu o)=true :=
 UW (by simp[eu]) (by simp[eu,jh]) (by simp[eu]) (by simp[eu]) (by simp[eu]) (by simp[eu]) (by simp[eu]) (by simpa[eu] using h)
theorem Uo {o:Ob} (h:bf o=true) (n:S):ak (bg o n).1=true∧((bg o n).2=true→never (bg o n).1=false):=by
 obtain⟨-,-,-,h4,h5,h6⟩:=dz h
 unfold bg
 split
 ·rename_i p hp
  have hm:=List.mem_of_find?_eq_some hp
  obtain⟨a,b,c⟩:=p
  have h2:=(List.of_mem_zip hm).2
  exact⟨h5 _ (List.of_mem_zip h2).1,fun hc=>h6 (b,c) h2 hc⟩
 ·exact⟨h4,fun h=>by cases h⟩
theorem aFB (l:List Ob) (h:∀ o∈l,SSs o.names):∀ acc,SSs acc→l.foldl (fun acc o=>ig acc o.names) acc=zU kR (acc++l.flatMap Ob.names):=by
 induction l with
 | nil=>intro acc ha; simpa using ahg ha fun _=>Iff.rfl
 | cons o l ih =>
   intro acc ha
   rw[List.foldl_cons,ih (fun x hx=>h x (by simp[hx])) _ (abJ acc o.names ha (h o (by simp)))]
   refine aoZ fun y=>?_
   simp[xq,or_assoc]
theorem aku {l:List Ob} (h:∀ o∈l,SSs o.names):qD l=zU kR (l.flatMap Ob.names):=by
 rw[qD,aFB l h [] (by simp[SS])]; rfl
theorem kG {o:Ob} (h:bf o=true):SSs o.names:=(JH (dz h).2.2.1).1
theorem aEe {l:List Ob} (h:∀ o∈l,bf o=true):jh (qD l)=true:=by
 rw[aku fun o ho=>kG (h o ho)]
 refine ahj (IW _).1 fun s hs=>?_
 have:=((IW _).2 s).1 hs
 obtain⟨o,ho,hs⟩:=List.mem_flatMap.1 this
 exact (JH (dz (h o ho)).2.2.1).2 s hs
theorem aGl {l:List Ob} (h:∀ o∈l,bf o=true) {s:S}:s∈qD l↔∃ o∈l,s∈o.names:=by
 rw[aku fun o ho=>kG (h o ho),(IW _).2 s,List.mem_flatMap]
theorem aBG {α β γ:Type} (f:α→β) (g:α→γ) (l:List α):(l.map f).zip (l.map g)=l.map fun x=>(f x,g x):=by
 induction l with
 | nil=>rfl
 | cons a l ih=>simp[ih]
theorem Uh {l:List Ob} (h:∀ o∈l,bf o=true) (h0:l≠[]):bf (pq l)=true:=by
 unfold pq
 refine JQ (by simp) (by simp) (by simpa using aEe h) (show ak (oh (l.map Ob.rest))=true from LG fun t ht=>?_) (fun f hf=>?_) (fun p hp hm=>?_)
 ·obtain⟨o,ho,rfl⟩:=List.mem_map.1 ht
  exact (dz (h o ho)).2.2.2.1
 ·simp only[Ob.qL,List.mem_map] at hf
  obtain⟨n,_,rfl⟩:=hf
  refine LG fun t ht=>?_
  obtain⟨o,ho,rfl⟩:=List.mem_map.1 ht
  exact (Uo (h o ho) n).1
 ·simp only[Ob.qL,Ob.VW,aBG,List.mem_map] at hp
  obtain⟨n,_,rfl⟩:=hp
  simp only[List.all_eq_true] at hm
  rw[aFF]
  obtain⟨o,l',rfl⟩:=List.exists_cons_of_ne_nil h0
  rw[List.map_cons,List.all_cons,(Uo (h o (by simp)) n).2 (hm o (by simp)),Bool.false_and]
theorem aGz {α:Type} {f:α→α→Ordering} {l m:List α} (h:l.Sublist m) (k:SS f m):SS f l:=List.Pairwise.sublist h k
theorem aHT {l m:List S} (h:l.Sublist m) (k:jh m=true):jh l=true:=by
 obtain⟨k1,k2⟩:=JH k
 exact ahj (aGz h k1) fun s hs=>k2 s (h.subset hs)
def jD (o:Ob):List (S × Ty × Bool):=o.names.zip (o.fields.zip o.must)
def xQ (l:List (S × Ty × Bool)) (r:Ty):Ob:=.mk (l.map (·.1)) (l.map (·.2.1)) (l.map (·.2.2)) r
theorem adq {o:Ob} (h1:o.names.length=o.fields.length) (h2:o.names.length=o.must.length):(jD o).map (·.1)=o.names∧(jD o).map (·.2.1)=o.fields∧(jD o).map (·.2.2)=o.must:=by
 have e:(o.fields.zip o.must).length=o.names.length:=by simp; omega
 have a1:(jD o).map (·.1)=o.names:=by unfold jD; rw[List.map_fst_zip (by omega)]
 have a2:(jD o).map (·.2)=o.fields.zip o.must:=by unfold jD; rw[List.map_snd_zip (by omega)]
 refine⟨a1,?_,?_⟩
 ·have:(jD o).map (·.2.1)=((jD o).map (·.2)).map (·.1):=by simp
  rw[this,a2,List.map_fst_zip (by omega)]
 ·have:(jD o).map (·.2.2)=((jD o).map (·.2)).map (·.2):=by simp
  rw[this,a2,List.map_snd_zip (by omega)]
theorem abe {o:Ob} (h:bf o=true) {l:List (S × Ty × Bool)} (hl:l.Sublist (jD o)) {r:Ty} (hr:ak r=true):bf (xQ l r)=true:=by
 obtain⟨h1,h2,h3,h4,h5,h6⟩:=dz h
 obtain⟨t1,t2,t3⟩:=adq h1 h2
 unfold xQ
 refine JQ (by simp) (by simp) ?_ (by simpa using hr) (fun f hf=>?_) (fun p hp hm=>?_)
 ·have:(l.map (·.1)).Sublist ((jD o).map (·.1)):=hl.map _
  rw[t1] at this
  exact aHT this h3
 ·have:(l.map (·.2.1)).Sublist ((jD o).map (·.2.1)):=hl.map _
  rw[t2] at this
  exact h5 f (this.subset (by simpa using hf))
 ·simp only[Ob.qL,Ob.VW,aBG,List.mem_map] at hp
  obtain⟨x,hx,rfl⟩:=hp
  have:=hl.subset hx
  unfold jD at this
  obtain⟨a,b,c⟩:=x
  exact h6 (b,c) (List.of_mem_zip this).2 hm
theorem aIL (o:Ob):jC o=xQ ((jD o).filter fun p=>p.2.2||!jm p.2.1 o.rest) o.rest:=rfl
theorem UQ {o:Ob} (h:bf o=true):bf (jC o)=true:=by
 rw[aIL]; exact abe h List.filter_sublist (dz h).2.2.2.1
theorem aBm {N:Ty→Ty} (hN:∀ t,ak t=true→ak (N t)=true) {o:Ob} (h:bf o=true):bf (zQ N o)=true:=by
 unfold zQ
 have hs:=UQ h
 generalize jC o=p at *
 simp only
 split
 ·exact hs
 ·obtain⟨h1,h2,h3,h4,h5,h6⟩:=dz hs
  refine UQ ?_
  have:∀ r,Ob.mk (p.names.take 12) (p.fields.take 12) (p.must.take 12) r=xQ ((jD p).take 12) r:=fun r=>by
   obtain⟨t1,t2,t3⟩:=adq h1 h2
   unfold xQ
   rw[List.map_take,List.map_take,List.map_take,t1,t2,t3]
  rw[this]
  refine abe hs (List.take_sublist _ _) (hN _ (LG fun t ht=>?_))
  rcases List.mem_cons.1 ht with rfl|ht
  ·exact h4
  ·exact h5 t (List.mem_of_mem_drop ht)
theorem zl {N:Ty→Ty} (hN:∀ t,ak t=true→ak (N t)=true) (hv:∀ t,ak t=true→never (N t)=never t) {o:Ob} (h:bf o=true):bf (gU N o)=true:=by
 obtain⟨h1,h2,h3,h4,h5,h6⟩:=dz h
 refine aBm hN (JQ (by simp[h1]) h2 h3 (hN _ h4) (fun f hf=>?_) (fun p hp hm=>?_))
 ·obtain⟨t,ht,rfl⟩:=List.mem_map.1 hf
  exact hN t (h5 t ht)
 ·simp only[Ob.qL,Ob.VW] at hp
  have:(o.fields.map N).zip o.must=(o.fields.zip o.must).map fun p=>(N p.1,p.2):=by
   rw[← List.map_id o.must,List.zip_map]; simp
  rw[this] at hp
  obtain⟨x,hx,rfl⟩:=List.mem_map.1 hp
  rw[hv _ (h5 _ (List.of_mem_zip hx).1)]
  exact h6 x hx hm
theorem aBN {l:List Ob} (h:∀ o∈l,bf o=true) {o:Ob}:o∈jg l↔o∈l:=by
 rw[asy]
 exact (ake (D:=aeL) ae7 aoG (fun _ _=>aE7) l (fun x hx=>aso (h x hx))).2 o
theorem wZ:∀ (l kept:List Ob),∀ o∈dN kept l,o∈kept∨o∈l
 | [],kept,o,h=>.inl (by simpa[dN] using h)
 | x::l,kept,o,h=>by
   simp only[dN] at h
   split at h
   ·exact (wZ l kept o h).imp id (by simp +contextual)
   ·rcases wZ l _ o h with h|h
    ·rcases List.mem_append.1 h with h|h
     ·exact .inl h
     ·exact .inr (by simp at h; simp[h])
    ·exact .inr (by simp[h])
theorem Xg {N:Ty→Ty} (hN:∀ t,ak t=true→ak (N t)=true) (hv:∀ t,ak t=true→never (N t)=never t) {l:List Ob} (h:∀ o∈l,bf o=true):∀ o∈l8 N l,bf o=true:=by
 have hr:∀ o∈dN [] (jg l),bf o=true:=fun o ho=>by
  rcases wZ _ _ o ho with h'|h'
  ·cases h'
  ·exact h o ((aBN h).1 h')
 unfold l8
 generalize dN [] (jg l)=row at *
 simp only
 split
 ·exact hr
 ·rename_i hlen
  have hnew:bf (gU N (pq (row.drop 3)))=true:=zl hN hv (Uh (fun o ho=>hr o (List.mem_of_mem_drop ho)) (fun e=>by have:=congrArg List.length e; simp at this; omega))
  have hall:∀ o∈row.take 3++[gU N (pq (row.drop 3))],bf o=true:=fun o ho=>by
   rcases List.mem_append.1 ho with ho|ho
   ·exact hr o (List.mem_of_mem_take ho)
   ·simp at ho; subst ho; exact hnew
  intro o ho
  rcases wZ _ _ o ho with h'|h'
  ·cases h'
  ·exact hall o ((aBN hall).1 h')
end Go.Tidy
namespace Go.Tidy
open Go
def hle (n:Nat) (o:Ob):Prop:=ay o.rest≤n∧∀ f∈o.fields,ay f≤n
theorem afg {n:Nat}:∀ {l:List Arr},iY l≤n+1↔∀ a∈l,ay a.item≤n
 | []=>by simp[iY]
 | .mk t lo hi::l=>by
   simp only[iY,List.mem_cons,forall_eq_or_imp,Arr.QB]
   rw[Nat.max_le,afg (l:=l)]
   exact and_congr (by omega) Iff.rfl
theorem afj {n:Nat}:∀ {l:List Ty},jI l≤n+1↔∀ a∈l,ay a≤n
 | []=>by simp[jI]
 | t::l=>by
   simp only[jI,List.mem_cons,forall_eq_or_imp]
   rw[Nat.max_le,afj (l:=l)]
   exact and_congr (by omega) Iff.rfl
theorem afk {n:Nat}:∀ {l:List Ob},jd l≤n+1↔∀ o∈l,hle n o
 | []=>by simp[jd]
 | .mk ns fs ms r::l=>by
   simp only[jd,List.mem_cons,forall_eq_or_imp,hle,Ob.adF,Ob.qL]
   rw[Nat.max_le,Nat.max_le,afk (l:=l),afj]
   exact and_congr (and_congr (by omega) Iff.rfl) Iff.rfl
theorem aqG (t:Ty):ay t=max (iY t.arrays) (jd t.objects):=by cases t; rfl
theorem qx {t:Ty} {n:Nat}:ay t≤n+1↔(∀ a∈t.arrays,ay a.item≤n)∧∀ o∈t.objects,hle n o:=by
 rw[aqG,Nat.max_le,afg,afk]
theorem qy {t:Ty}:ay t≤0↔t.arrays=[]∧t.objects=[]:=by
 rw[aqG]
 constructor
 ·intro h
  refine⟨?_,?_⟩
  ·cases ha:t.arrays with
   | nil=>rfl
   | cons a l=>obtain⟨x,lo,hi⟩:=a; rw[ha] at h; simp only[iY] at h; omega
  ·cases ha:t.objects with
   | nil=>rfl
   | cons a l=>obtain⟨ns,fs,ms,r⟩:=a; rw[ha] at h; simp only[jd] at h; omega
 ·rintro⟨h1,h2⟩; rw[h1,h2]; simp[iY,jd]
theorem Ig (n:Nat):ay dn≤n:=by simp[dn,ay,iY,jd]
theorem aB0 (n:Nat):ay d9≤n:=by simp[d9,ay,iY,jd]
theorem amV:∀ (n:Nat) (a b:Ty),ay a≤n→ay b≤n→ay (jO a b)≤n:=by
 intro n
 induction n with
 | zero =>
   intro a b ha hb
   rw[qy] at *
   rw[zH]
   split
   ·exact⟨rfl,rfl⟩
   ·simp[ha,hb,jM]
 | succ n ih =>
   intro a b ha hb
   rw[zH]
   split
   ·exact Ig _
   ·rw[qx] at *
    simp only[Ty.sw,Ty.qz]
    refine⟨fun x hx=>?_,fun o ho=>(List.mem_append.1 ho).elim (ha.2 o) (hb.2 o)⟩
    cases h1:a.arrays with
    | nil=>rw[h1,Dn] at hx; exact hb.1 x hx
    | cons y l =>
      cases h2:b.arrays with
      | nil=>rw[h1,h2,Uf] at hx; exact ha.1 x (by rw[h1]; exact hx)
      | cons z m =>
        rw[h1,h2] at hx
        simp only[jM,List.mem_singleton] at hx
        subst hx
        rw[aaW]
        exact ih _ _ (ha.1 y (by rw[h1]; simp)) (hb.1 z (by rw[h2]; simp))
theorem amW {n:Nat}:∀ (l:List Ty) (acc:Ty),(∀ t∈l,ay t≤n)→ay acc≤n→ay (l.foldl jO acc)≤n
 | [],acc,_,h=>h
 | t::l,acc,hl,h=>amW l _ (fun x hx=>hl x (by simp[hx])) (amV n _ _ h (hl t (by simp)))
theorem abm {n:Nat} {l:List Ty} (h:∀ t∈l,ay t≤n):ay (oh l)≤n:=amW l _ h (aB0 n)
theorem ajA (o:Ob) (n:S):(bg o n).1∈o.fields∨(bg o n).1=o.rest:=by
 unfold bg
 split
 ·rename_i p hp
  have hm:=List.mem_of_find?_eq_some hp
  obtain⟨a,b,c⟩:=p
  exact .inl (List.of_mem_zip (List.of_mem_zip hm).2).1
 ·exact .inr rfl
theorem aIW {n:Nat} {o:Ob} (h:hle n o) (s:S):ay (bg o s).1≤n:=by
 rcases ajA o s with k|k
 ·exact h.2 _ k
 ·rw[k]; exact h.1
theorem aAK {n:Nat} {l:List Ob} (h:∀ o∈l,hle n o):hle n (pq l):=by
 refine⟨abm fun t ht=>?_,fun f hf=>?_⟩
 ·obtain⟨o,ho,rfl⟩:=List.mem_map.1 ht
  exact (h o ho).1
 ·simp only[pq,Ob.qL,List.mem_map] at hf
  obtain⟨s,_,rfl⟩:=hf
  refine abm fun t ht=>?_
  obtain⟨o,ho,rfl⟩:=List.mem_map.1 ht
  exact aIW (h o ho) s
theorem aip (o:Ob):∀ f∈(jC o).fields,f∈o.fields:=fun f hf=>by
 simp only[jC,Ob.qL,List.mem_map,List.mem_filter] at hf
 obtain⟨⟨a,b,c⟩,⟨hm,_⟩,rfl⟩:=hf
 exact (List.of_mem_zip (List.of_mem_zip hm).2).1
theorem aCR (o:Ob):∀ f∈(jC o).names,f∈o.names:=fun f hf=>by
 simp only[jC,Ob.aeh,List.mem_map,List.mem_filter] at hf
 obtain⟨⟨a,b,c⟩,⟨hm,_⟩,rfl⟩:=hf
 exact (List.of_mem_zip hm).1
theorem ahw {n:Nat} {o:Ob} (h:hle n o):hle n (jC o):=⟨h.1,fun f hf=>h.2 f (aip o f hf)⟩
theorem aIT {n:Nat} {N:Ty→Ty} (hN:∀ t,ay t≤n→ay (N t)≤n) {o:Ob} (h:hle n o):hle n (zQ N o):=by
 unfold zQ
 have hs:=ahw h
 generalize jC o=p at *
 simp only
 split
 ·exact hs
 ·refine ahw ⟨hN _ (abm fun t ht=>?_),fun f hf=>hs.2 f (List.mem_of_mem_take hf)⟩
  rcases List.mem_cons.1 ht with rfl|ht
  ·exact hs.1
  ·exact hs.2 t (List.mem_of_mem_drop ht)
theorem afY {n:Nat} {N:Ty→Ty} (hN:∀ t,ay t≤n→ay (N t)≤n) {o:Ob} (h:ay (N o.rest)≤n∧∀ f∈o.fields,ay (N f)≤n):hle n (gU N o) :=
 aIT hN ⟨h.1,fun f hf=>by
  obtain⟨t,ht,rfl⟩:=List.mem_map.1 hf
  exact h.2 t ht⟩
theorem azS {α:Type} {f:α→α→Ordering} {o:α}:∀ {l:List α} {y:α},y∈yw f o l→y=o∨y∈l
 | [],y,h=>.inl (by simpa[yw] using h)
 | x::l,y,h=>by
   simp only[yw] at h
   split at h
   ·simpa using h
   ·exact .inr h
   ·rcases List.mem_cons.1 h with h|h
    ·exact .inr (by simp[h])
    ·exact (azS h).imp id (by simp +contextual)
theorem anJ {α:Type} {f:α→α→Ordering} {o:α}:∀ {l:List α},(yw f o l).length≤l.length+1∧0<(yw f o l).length
 | []=>by simp[yw]
 | x::l=>by
   simp only[yw]
   split
   ·simp
   ·simp
   ·have:=(anJ (f:=f) (o:=o) (l:=l)).1
    simp; exact this
theorem aKl {α:Type} {f:α→α→Ordering} (l:List α):(∀ y∈zU f l,y∈l)∧(zU f l).length≤l.length∧(l≠[]→zU f l≠[]):=by
 have key:∀ (l acc:List α),(∀ y∈l.foldl (fun acc o=>yw f o acc) acc,y∈acc∨y∈l)∧(l.foldl (fun acc o=>yw f o acc) acc).length≤acc.length+l.length∧(0<acc.length→0<(l.foldl (fun acc o=>yw f o acc) acc).length):=by
  intro l
  induction l with
  | nil=>intro acc; simp
  | cons o l ih =>
    intro acc
    obtain⟨h1,h2,h3⟩:=ih (yw f o acc)
    have hl:=anJ (f:=f) (o:=o) (l:=acc)
    refine⟨fun y hy=>?_,?_,fun _=>h3 hl.2⟩
    ·rcases h1 y hy with h|h
     ·exact (azS h).elim (fun e=>.inr (by simp[e])) .inl
     ·exact .inr (by simp[h])
    ·simp only[List.foldl_cons,List.length_cons]; omega
 obtain⟨h1,h2,h3⟩:=key l []
 refine⟨fun y hy=>(h1 y hy).elim (fun h=>by cases h) id,by simpa[zU] using h2,fun hl he=>?_⟩
 cases l with
 | nil=>exact hl rfl
 | cons o l =>
   have:=(key l (yw f o [])).2.2 (anJ).2
   simp only[zU,List.foldl_cons] at he
   rw[he] at this
   simp at this
theorem qJ (l:List Ob):(∀ o∈jg l,o∈l)∧(jg l).length≤l.length∧(l≠[]→jg l≠[]):=by rw[asy]; exact aKl l
theorem Bq:∀ (l kept:List Ob),(dN kept l).length≤kept.length+l.length∧(kept≠[]∨l≠[]→dN kept l≠[])
 | [],kept=>by simp[dN]
 | x::l,kept=>by
   simp only[dN]
   split
   ·rename_i h
    have ih:=Bq l kept
    refine⟨by have:=ih.1; simp; omega,fun _=>ih.2 ?_⟩
    rcases Bool.or_eq_true_iff.1 h with h|h
    ·exact .inl fun e=>by rw[e] at h; simp at h
    ·exact .inr fun e=>by rw[e] at h; simp at h
   ·have ih:=Bq l (kept++[x])
    exact⟨by have:=ih.1; simp at this ⊢; omega,fun _=>ih.2 (.inl (by simp))⟩
theorem aky {N:Ty→Ty} {l:List Ob} {o:Ob} (h:o∈l8 N l):o∈l∨∃ m:List Ob,(∀ x∈m,x∈l)∧m≠[]∧o=gU N (pq m):=by
 have hr:∀ x∈dN [] (jg l),x∈l:=fun x hx=>(wZ _ _ x hx).elim (fun h=>by cases h) ((qJ l).1 x)
 unfold l8 at h
 generalize dN [] (jg l)=row at *
 simp only at h
 split at h
 ·exact .inl (hr o h)
 ·rename_i hlen
  rcases wZ _ _ o h with h'|h'
  ·cases h'
  ·have:=(qJ _).1 o h'
   rcases List.mem_append.1 this with h2|h2
   ·exact .inl (hr o (List.mem_of_mem_take h2))
   ·simp only[List.mem_singleton] at h2
    exact .inr ⟨row.drop 3,fun x hx=>hr x (List.mem_of_mem_drop hx),fun e=>by have:=congrArg List.length e; simp at this; omega,h2⟩
theorem ZA (N:Ty→Ty) (l:List Ob):(l8 N l).length≤4∧(l8 N l=[]↔l=[]):=by
 unfold l8
 have h1:=Bq (jg l) []
 have h2:=qJ l
 have h0:l=[]→dN [] (jg l)=[]:=fun e=>by subst e; rfl
 generalize dN [] (jg l)=row at *
 simp only
 split
 ·rename_i hlen
  refine⟨hlen,fun e=>?_,h0⟩
  cases hl:l with
  | nil=>rfl
  | cons x m=>exact absurd e (h1.2 (.inr (h2.2.2 (by rw[hl]; simp))))
 ·rename_i hlen
  have h3:=Bq (jg (row.take 3++[gU N (pq (row.drop 3))])) []
  have h4:=qJ (row.take 3++[gU N (pq (row.drop 3))])
  refine⟨?_,fun e=>?_,fun e=>?_⟩
  ·have a:=h3.1
   have b:=h4.2.1
   simp at a b
   omega
  ·exact absurd e (h3.2 (.inr (h4.2.2 (by simp))))
  ·rw[h0 e] at hlen; simp at hlen
theorem Yc (t:Ty) (as:List Arr) (os:List Ob):QY t as os=dn∨QY t as os=.mk false t.null t.fls t.tru t.nums (t.any||decide (16<t.texts.length)) (if 16<t.texts.length then [] else t.texts) as os:=by
 have key:∀ x:Ty,(if jm x laidAll then dn else x)=dn∨(if jm x laidAll then dn else x)=x:=fun x=>by
  split
  ·exact .inl rfl
  ·exact .inr rfl
 exact key _
theorem zw (t:Ty):bG 0 t=if t.all||!t.arrays.isEmpty||!t.objects.isEmpty then dn else QY t [] []:=rfl
theorem uM (h:Nat) (t:Ty):bG (h+1) t=if t.all then dn else QY t (t.arrays.map fun a=>.mk (bG h a.item) a.min a.max) (l8 (bG h) (t.objects.map (gU (bG h)))):=rfl
theorem aGF {t:Ty} {as:List Arr} {os:List Ob} {n:Nat} (h1:∀ a∈as,ay a.item≤n) (h2:∀ o∈os,hle n o):ay (QY t as os)≤n+1:=by
 rcases Yc t as os with e|e
 ·rw[e]; exact Ig _
 ·rw[e,qx]; exact⟨h1,h2⟩
theorem aaL:∀ (h:Nat) (t:Ty) (n:Nat),ay t≤n∨h≤n→ay (bG h t)≤n:=by
 intro h
 induction h with
 | zero =>
   intro t n _
   rw[zw]
   split
   ·exact Ig n
   ·rcases Yc t [] [] with e|e<;>rw[e]
    ·exact Ig n
    ·simp[ay,iY,jd]
 | succ h ih =>
   intro t n hn
   rw[uM]
   split
   ·exact Ig n
   ·match n,hn with
    | 0,hn =>
      have:=qy.1 (show ay t≤0 by omega)
      rw[this.1,this.2]
      have e:l8 (bG h) (List.map (gU (bG h)) [])=[]:=(ZA _ _).2.2 rfl
      rw[e]
      rcases Yc t [] [] with e|e<;>simp only[List.map_nil]<;>rw[e]
      ·exact Ig 0
      ·simp[ay,iY,jd]
    | n+1,hn =>
      have hN:∀ t,ay t≤n→ay (bG h t)≤n:=fun t ht=>ih t n (.inl ht)
      have hi:(∀ a∈t.arrays,ay a.item≤n∨h≤n)∧∀ o∈t.objects,(ay o.rest≤n∨h≤n)∧∀ f∈o.fields,ay f≤n∨h≤n:=by
       rcases hn with hn|hn
       ·have:=qx.1 hn
        exact⟨fun a ha=>.inl (this.1 a ha),fun o ho=>⟨.inl (this.2 o ho).1,fun f hf=>.inl ((this.2 o ho).2 f hf)⟩⟩
       ·have:h≤n:=by omega
        exact⟨fun a ha=>.inr this,fun o ho=>⟨.inr this,fun f hf=>.inr this⟩⟩
      have hm:∀ o∈t.objects.map (gU (bG h)),hle n o:=fun o ho=>by
       obtain⟨x,hx,rfl⟩:=List.mem_map.1 ho
       exact afY hN ⟨ih _ _ (hi.2 x hx).1,fun f hf=>ih _ _ ((hi.2 x hx).2 f hf)⟩
      refine aGF (fun a ha=>?_) (fun o ho=>?_)
      ·obtain⟨x,hx,rfl⟩:=List.mem_map.1 ha
       exact ih _ _ (hi.1 x hx)
      ·rcases aky ho with h'|⟨m,h1,_,rfl⟩
       ·exact hm o h'
       ·have:=aAK fun x hx=>hm x (h1 x hx)
        exact afY hN ⟨hN _ this.1,fun f hf=>hN _ (this.2 f hf)⟩
theorem apd {t:Ty} {as:List Arr} {os:List Ob} (h0:t.all=false) (h1:as=[]↔t.arrays=[]) (h2:os=[]↔t.objects=[]):never (QY t as os)=never t:=by
 have key:never (.mk false t.null t.fls t.tru t.nums (t.any||decide (16<t.texts.length)) (if 16<t.texts.length then [] else t.texts) as os)=never t:=by
  rw[Bool.eq_iff_iff,VO,VO]
  simp only[Ty.all_mk,Ty.alc,Ty.apV,Ty.aqI,Ty.adB,Ty.any_mk,Ty.rU,Ty.sw,Ty.qz,h0,h1,h2]
  by_cases h:16<t.texts.length
  ·have:¬ t.texts=[]:=fun e=>by rw[e] at h; simp at h
   simp[h,this]
  ·simp[h]
 have key2:∀ x:Ty,never (if jm x laidAll then dn else x)=never x:=fun x=>by
  split
  ·rename_i hs
   unfold jm at hs
   rw[beq_iff_eq] at hs
   obtain⟨a,b,c,d,ns,e,ts,as,os⟩:=x
   simp only[laidAll,kU,JD,arV] at hs
   obtain⟨-,rfl,-⟩:=hs
   simp[never,bare,dn]
  ·rfl
 exact (key2 _).trans key
theorem acE (h:Nat) (t:Ty) (ht:ak t=true):never (bG h t)=never t:=by
 have he:never dn=false:=by simp[never,dn]
 have ha:t.all=true→never t=false:=fun h=>by simp[never,h]
 cases h with
 | zero =>
   rw[zw]
   split
   ·rename_i hc
    rw[he]
    cases h1:t.all
    ·cases hn:never t
     ·rfl
     ·have:=VO.1 hn
      simp[h1,this] at hc
    ·rw[ha h1]
   ·rename_i hc
    simp only[Bool.or_eq_true,Bool.not_eq_true',not_or,Bool.not_eq_true,Bool.not_eq_false,List.isEmpty_iff,Bool.not_eq_eq_eq_not,Bool.not_false,Bool.not_true] at hc
    exact apd hc.1.1 (by simp[hc.1.2]) (by simp[hc.2])
 | succ h =>
   rw[uM]
   split
   ·rename_i h1; rw[he,ha h1]
   ·rename_i h1
    refine apd (by simpa using h1) (by simp) ?_
    rw[(ZA _ _).2]; simp
theorem amC {t:Ty} (ht:ak t=true) {as:List Arr} {os:List Ob} (h1:as.length≤1) (h2:∀ a∈as,iw a=true) (h3:∀ o∈os,bf o=true):ak (QY t as os)=true:=by
 obtain⟨t1,t2,t3,t4,t5,t6,t7,t8⟩:=cu ht
 rcases Yc t as os with e|e
 ·rw[e]; exact ZQ
 ·rw[e]
  refine UW (by simp) ?_ (fun h=>?_) t4 t5 h1 h2 h3
  ·simp only[Ty.rU]
   split
   ·rfl
   ·exact t2
  ·simp only[Ty.any_mk,Ty.rU] at h ⊢
   split
   ·rfl
   ·rename_i hn
    exact t3 (by simpa[hn] using h)
theorem ko:∀ (h:Nat) (t:Ty),ak t=true→ak (bG h t)=true:=by
 intro h
 induction h with
 | zero =>
   intro t ht
   rw[zw]
   split
   ·exact ZQ
   ·exact amC ht (by simp) (by simp) (by simp)
 | succ h ih =>
   intro t ht
   rw[uM]
   split
   ·exact ZQ
   ·obtain⟨t1,t2,t3,t4,t5,t6,t7,t8⟩:=cu ht
    have hv:∀ t,ak t=true→never (bG h t)=never t:=fun t ht=>acE h t ht
    refine amC ht (by simpa using t6) (fun a ha=>?_) (Xg ih hv fun o ho=>?_)
    ·obtain⟨x,hx,rfl⟩:=List.mem_map.1 ha
     obtain⟨x1,x2,x3,x4,x5⟩:=gY (t7 x hx)
     exact UY x1 x2 x3 (ih _ x4) (by rw[Arr.QB,hv _ x4]; exact x5)
    ·obtain⟨x,hx,rfl⟩:=List.mem_map.1 ho
     exact zl ih hv (t8 x hx)
theorem aDA {N N' : Ty→Ty} {n:Nat} (h:∀ t,ay t≤n→N t=N' t) {o:Ob} (ho:hle n o):zQ N o=zQ N' o:=by
 unfold zQ
 have hs:=ahw ho
 generalize jC o=p at *
 simp only
 split
 ·rfl
 ·rw[h _ (abm fun t ht=>?_)]
  rcases List.mem_cons.1 ht with rfl|ht
  ·exact hs.1
  ·exact hs.2 t (List.mem_of_mem_drop ht)
theorem aiN {N N' : Ty→Ty} {n:Nat} (h:∀ t,ay t≤n→N t=N' t) (hN:∀ t,ay t≤n→ay (N t)≤n) {o:Ob} (ho:hle n o):gU N o=gU N' o:=by
 unfold gU
 have e:o.fields.map N=o.fields.map N':=List.map_congr_left fun t ht=>h t (ho.2 t ht)
 rw[← e,← h _ ho.1]
 refine aDA h ⟨hN _ ho.1,fun f hf=>?_⟩
 obtain⟨t,ht,rfl⟩:=List.mem_map.1 hf
 exact hN t (ho.2 t ht)
theorem asB {N N' : Ty→Ty} {n:Nat} (h:∀ t,ay t≤n→N t=N' t) (hN:∀ t,ay t≤n→ay (N t)≤n) {l:List Ob} (hl:∀ o∈l,hle n o):l8 N l=l8 N' l:=by
 unfold l8
 have hr:∀ x∈dN [] (jg l),x∈l:=fun x hx=>(wZ _ _ x hx).elim (fun h=>by cases h) ((qJ l).1 x)
 generalize dN [] (jg l)=row at *
 simp only
 split
 ·rfl
 ·rw[aiN h hN (aAK fun o ho=>hl o (hr o (List.mem_of_mem_drop ho)))]
theorem aax:∀ (h:Nat) (t:Ty),ay t≤h→bG (h+1) t=bG h t:=by
 intro h
 induction h with
 | zero =>
   intro t ht
   have:=qy.1 ht
   rw[uM,zw,this.1,this.2]
   have e:l8 (bG 0) (List.map (gU (bG 0)) [])=[]:=(ZA _ _).2.2 rfl
   rw[e]
   simp
 | succ h ih =>
   intro t ht
   obtain⟨h1,h2⟩:=qx.1 ht
   have hN:∀ t,ay t≤h→ay (bG h t)≤h:=fun t ht=>aaL h t h (.inl ht)
   have he:∀ t,ay t≤h→bG h t=bG (h+1) t:=fun t ht=>(ih t ht).symm
   rw[uM (h+1),uM h]
   have e1:(t.arrays.map fun a=>Arr.mk (bG (h+1) a.item) a.min a.max)=t.arrays.map fun a=>Arr.mk (bG h a.item) a.min a.max :=
    List.map_congr_left fun a ha=>by rw[ih _ (h1 a ha)]
   have e2:t.objects.map (gU (bG (h+1)))=t.objects.map (gU (bG h)) :=
    List.map_congr_left fun o ho=>(aiN he hN (h2 o ho)).symm
   rw[e1,e2,asB he hN (l:=t.objects.map (gU (bG h))) fun o ho=>by
    obtain⟨x,hx,rfl⟩:=List.mem_map.1 ho
    exact afY hN ⟨hN _ (h2 x hx).1,fun f hf=>hN _ ((h2 x hx).2 f hf)⟩]
theorem zX (t:Ty) (n h:Nat) (best:Ty):uH t (n+1) h best=if iW (bG h t)≤200 then uH t n (h+1) (bG h t) else best:=rfl
theorem aqO {t:Ty} (h:ay t≤0):iW t=1:=by
 have:=qy.1 h
 obtain⟨a,b,c,d,ns,e,ts,as,os⟩:=t
 simp only[Ty.sw,Ty.qz] at this
 rw[this.1,this.2]; simp[iW,kg,ng]
theorem aiq (t:Ty):∀ (n h:Nat),ay t≤h→iW (bG h t)≤200→uH t n (h+1) (bG h t)=bG h t
 | 0,h,_,_=>rfl
 | n+1,h,h1,h2=>by
   rw[zX,aax h t h1,if_pos h2]
   have:=aiq t n (h+1) (by omega) (by rw[aax h t h1]; exact h2)
   rw[aax h t h1] at this
   exact this
theorem akc (t:Ty):∀ (n h m:Nat),h+n=ay t+1→0<h→(h=1∨iW (bG (h-1) t)≤200)→uH t (n+m) h (bG (h-1) t)=uH t n h (bG (h-1) t)
 | 0,h,m,e,h0,hp=>by
   rw[Nat.zero_add]
   show _=bG (h-1) t
   have e1:h=(h-1)+1:=by omega
   have hh:ay t≤h-1:=by omega
   have:=aiq t m (h-1) hh (by
    rcases hp with hp|hp
    ·rw[aqO (aaL _ _ 0 (.inl (by omega)))]; omega
    ·exact hp)
   rw[← e1] at this
   exact this
 | n+1,h,m,e,h0,hp=>by
   rw[show n+1+m=(n+m)+1 by omega,zX,zX]
   split
   ·rename_i hle
    have:=akc t n (h+1) m (by omega) (by omega) (.inr (by simpa using hle))
    simpa using this
   ·rfl
theorem aIc (t:Ty):uH t (min (ay t) 8) 1 (bG 0 t)=oQ t:=by
 unfold oQ
 by_cases h:ay t≤8
 ·rw[Nat.min_eq_left h]
  have:=akc t (ay t) 1 (8-ay t) (by omega) (by omega) (.inl rfl)
  rw[show ay t+(8-ay t)=8 by omega] at this
  exact this.symm
 ·rw[Nat.min_eq_right (by omega)]
theorem amJ (t:Ty):∀ (n h:Nat),∃ k,k≤h+n∧h≤k∧uH t n (h+1) (bG h t)=bG k t
 | 0,h=>⟨h,by omega,by omega,rfl⟩
 | n+1,h=>by
   rw[zX]
   split
   ·obtain⟨k,h1,h2,h3⟩:=amJ t n (h+1)
    exact⟨k,by omega,by omega,h3⟩
   ·exact⟨h,by omega,by omega,rfl⟩
theorem aAz (t:Ty):∃ k,k≤8∧oQ t=bG k t:=by
 obtain⟨k,h1,_,h3⟩:=amJ t 8 0
 exact⟨k,by omega,h3⟩
end Go.Tidy

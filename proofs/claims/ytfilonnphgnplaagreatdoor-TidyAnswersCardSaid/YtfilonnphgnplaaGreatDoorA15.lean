/- Part 15. -/
import Derived.Test.YtfilonnphgnplaaGreatDoorA14
set_option linter.unusedSimpArgs false
set_option linter.unusedVariables false
set_option maxRecDepth 100000
namespace Go.Proofs.YtfilonnphgnplaaGreatDoor.Pv
open Go Go.Tidy
theorem aE4 {n:Int} (h1:0≤n) (h2:n≤18446744073709551615):IntKind.u64.wrap n=n:=by
 simp[IntKind.wrap,IntKind.bits,IntKind.signed]
 omega
theorem FU (l:List S) (x:S) (i:Nat) (hi:i≤l.length) (h1:∀ k,(h:k<l.length)→k<i→sLt l[k] x=true) (h2:∀ k,(h:k<l.length)→i≤k→sLt l[k] x=false) :
 Ret prog M.qm [.vec 1 false (l.map encStr),.str x] (.tup [.int .i64 i,.bool (decide (l[i]? = some x))]):=by
 refine Ret.go ah aau (by simp) fun hb w0 F0 hG=>?_
 simp only[fu,gQ,List.length_map,LIM,and_true] at hb
 simp
 obtain⟨J,hJ⟩ : ∃ J:Nat × Nat→Prop,J=fun g=>g.1≤i∧i≤g.2∧g.2≤l.length:=⟨_,rfl⟩
 refine aU.go ah (fun g:Nat × Nat=>⟨[(7,.int .i64 g.1),(8,.int .i64 g.2),(6,.int .i64 l.length),(1,.str x),(0,.vec 1 false (l.map encStr))],[]⟩) J (fun g=>g.2-g.1) (0,l.length) (by simp[hJ]; exact hi) (by simp) fun g hj=>?_
 obtain⟨a,b⟩:=g
 have hj' : a≤i∧i≤b∧b≤l.length:=by rw[hJ] at hj; exact hj
 obtain⟨g1,g2,g3⟩:=hj'
 have w1:=wrap64 (n:=(a:Int)+b) (by omega) (by omega)
 have w2:=aE4 (n:=(a:Int)+b) (by omega) (by omega)
 by_cases hab:a<b
 ·have hd:((a:Int)+b).fdiv 2=((a+b) / 2:Nat):=by
     rw[Int.fdiv_eq_ediv_of_nonneg _ (by omega)]; omega
  have w3:=aE4 (n:=(((a+b) / 2:Nat):Int)) (by omega) (by omega)
  have w4:=wrap64 (n:=(((a+b) / 2:Nat):Int)) (by omega) (by omega)
  have w5:=wrap64 (n:=(((a+b) / 2:Nat):Int)+1) (by omega) (by omega)
  generalize hh:(a+b) / 2=h at *
  have hl:h<l.length:=by omega
  have e:=h1 h hl
  have e':=h2 h hl
  have p2:(2:Int) ^ min 1 IntKind.u64.bits=2:=by decide
  simp[hab,w1,w2,p2,hd,w3,w4]
  refine bQ.go ah ?_
  simp[hl]
  refine aj.ret (alM l[h] x) ?_
  by_cases hc:h<i
  ·simp[e hc,w5]
   refine⟨h+1,b,?_,by omega,by simp⟩
   rw[hJ]; exact⟨by show h+1≤i; omega,g2,g3⟩
  ·simp[e' (by omega)]
   refine⟨a,h,?_,by omega,by simp⟩
   rw[hJ]; exact⟨g1,by show i≤h; omega,by show h≤l.length; omega⟩
 ·obtain rfl:a=b:=by omega
  obtain rfl:a=i:=by omega
  by_cases hc:a<l.length
  ·have hq:sEq l[a] x=decide (l[a]=x):=by
      rw[Bool.eq_iff_iff,qo]; simp
   cases hd:decide (l[a]=x)
   ·simp[hc,hq,hd]
    refine aj.ret (agU _) ?_
    simp[hc,hq,hd]
   ·simp[hc,hq,hd]
  ·simp[hc]
theorem aIk (l:List S) (x:S) (hs:SSs l):∃ i:Nat,i≤l.length∧(∀ k,(h:k<l.length)→k<i→sLt l[k] x=true)∧(∀ k,(h:k<l.length)→i≤k→sLt l[k] x=false):=by
 induction l with
 | nil=>exact⟨0,by simp,by simp,by simp⟩
 | cons a l ih =>
   have h':=List.pairwise_cons.1 hs
   cases ha:sLt a x
   ·refine⟨0,by simp,by simp,fun k hk _=>?_⟩
    cases k with
    | zero=>exact ha
    | succ k =>
      cases e:sLt ((a::l)[k+1]) x
      ·rfl
      ·have hk' : k<l.length:=by simpa using hk
       have h1:=uW.1 (h'.1 l[k] (List.getElem_mem hk'))
       have:=aIV h1 (by simpa using e)
       rw[ha] at this; cases this
   ·obtain⟨i,i1,i2,i3⟩:=ih h'.2
    refine⟨i+1,by simp; omega,fun k hk hlt=>?_,fun k hk hge=>?_⟩
    ·cases k with
     | zero=>exact ha
     | succ k=>exact i2 k (by simpa using hk) (by omega)
    ·cases k with
     | zero=>omega
     | succ k=>exact i3 k (by simpa using hk) (by omega)
theorem azP {o:Ob} {n:S} {i:Nat} (h1:o.names.length=o.fields.length) (h2:o.names.length=o.must.length) (hi:i<o.names.length) (hs:SSs o.names) (e:o.names[i]=n):bg o n=(o.fields[i]'(by omega),o.must[i]'(by omega)):=by
 have hl:i<(o.names.zip (o.fields.zip o.must)).length:=by simp; omega
 have hz:(o.names.zip (o.fields.zip o.must))[i]=(o.names[i],o.fields[i]'(by omega),o.must[i]'(by omega)):=by simp
 unfold bg
 rw[auH hl (fun j hj hlt=>?_) (by rw[hz]; exact qo.2 e),hz]
 have hjn:j<o.names.length:=by omega
 have hz' : (o.names.zip (o.fields.zip o.must))[j]=(o.names[j],o.fields[j]'(by omega),o.must[j]'(by omega)):=by simp
 rw[hz']
 have:=uW.1 (List.pairwise_iff_getElem.1 hs j i hjn hi hlt)
 show (!sEq o.names[j] n)=true
 cases e' : sEq o.names[j] n
 ·rfl
 ·rw[qo.1 e',e,aph] at this; cases this
theorem azj {o:Ob} {n:S} (hn:n ∉ o.names):bg o n=(o.rest,false):=by
 unfold bg
 have:(o.names.zip (o.fields.zip o.must)).find? (fun p=>sEq p.1 n)=none:=by
  rw[List.find?_eq_none]
  intro p hp hq
  exact hn (qo.1 hq ▸ (List.of_mem_zip hp).1)
 rw[this]
theorem aIy {l:List S} {x:S} {i:Nat} (hs:SSs l) (h1:∀ k,(h:k<l.length)→k<i→sLt l[k] x=true) (h2:∀ k,(h:k<l.length)→i≤k→sLt l[k] x=false) (hn:l[i]?≠some x):x ∉ l:=by
 intro hx
 obtain⟨k,hk,e⟩:=List.getElem_of_mem hx
 by_cases hki:k<i
 ·have:=h1 k hk hki
  rw[e,aph] at this; cases this
 ·by_cases hik:i=k
  ·subst hik
   exact hn (by rw[List.getElem?_eq_getElem hk,e])
  ·have a:=uW.1 (List.pairwise_iff_getElem.1 hs i k (by omega) hk (by omega))
   have b:=h2 i (by omega) (Nat.le_refl _)
   rw[e,b] at a; cases a
set_option maxHeartbeats 4000000 in
theorem aA0 (o:Ob) (n:S) (h1:o.names.length=o.fields.length) (h2:o.names.length=o.must.length) (hs:SSs o.names):Ret prog M.aeA [.agg (cO o),.str n] (.tup [.agg (cT (bg o n).1),.bool (bg o n).2]):=by
 obtain⟨i,i1,i2,i3⟩:=aIk o.names n hs
 have hc:=FU o.names n i i1 i2 i3
 have hR:bg o n=if h:o.names[i]? = some n then (o.fields[i]'(by have:=(List.getElem?_eq_some_iff.1 h).1; omega),o.must[i]'(by have:=(List.getElem?_eq_some_iff.1 h).1; omega)) else (o.rest,false):=by
  split
  ·rename_i h
   obtain⟨hi,e⟩:=List.getElem?_eq_some_iff.1 h
   exact azP h1 h2 hi hs e
  ·rename_i h
   exact azj (aIy hs i2 i3 h)
 generalize bg o n=R at *
 refine Ret.go ah azg (by simp) fun hb w0 F0 hG=>?_
 simp
 intros
 refine aj.ret hc ?_
 by_cases h:o.names[i]? = some n
 ·have hi:i<o.names.length:=(List.getElem?_eq_some_iff.1 h).1
  have g2:i<o.fields.length:=by omega
  have g3:i<o.must.length:=by omega
  rw[dif_pos h] at hR
  simp[h,g2,g3,hR]
 ·rw[dif_neg h] at hR
  simp[h,hR]
end Go.Proofs.YtfilonnphgnplaaGreatDoor.Pv
set_option maxRecDepth 100000
namespace Go.Proofs.YtfilonnphgnplaaGreatDoor.Pv
open Go Go.Tidy
def XW {α:Type} (p:α→Bool) (l:List α):Int:=if l.any p then (l.findIdx p:Nat) else -1
theorem auW {α:Type} {p:α→Bool} {l:List α} {k:Nat} (hk:k<l.length) (ha:iG (fun x=>!p x) l k) (h:p l[k]=true):XW p l=k:=by
 have h1:l.any p=true:=List.any_eq_true.2 ⟨_,List.getElem_mem hk,h⟩
 have h2:l.findIdx p=k:=(List.findIdx_eq hk).2 ⟨h,fun j hj=>by
  have:=ha j (by omega) hj
  rw[Bool.not_eq_true'] at this; exact this⟩
 simp[XW,h1,h2]
theorem ar6 {α:Type} {p:α→Bool} {l:List α} {k:Nat} (ha:iG (fun x=>!p x) l k) (hk:¬ k<l.length):XW p l=-1:=by
 have:=ha.all hk
 have h1:l.any p=false:=by
  rw[List.any_eq_false]; simpa[List.all_eq_true] using this
 simp[XW,h1]
theorem asz {α:Type} (p:α→Bool) (l:List α):decide (0≤XW p l)=l.any p:=by
 unfold XW
 cases l.any p<;>simp
theorem agp (l:List S) (x:S):Ret prog M.Gu [.vec 1 false (l.map encStr),.str x] (.int .i64 (XW (fun u=>sEq u x) l)):=by
 refine Ret.go ah ag3 (by simp) fun hb w0 F0 hG=>?_
 simp only[fu,gQ,List.length_map,LIM,and_true] at hb
 generalize hB:XW (fun u=>sEq u x) l=B
 obtain⟨J,hJ⟩ : ∃ J:Nat→Unit→Prop,J=fun k _=>iG (fun u=>!sEq u x) l k:=⟨_,rfl⟩
 simp
 refine aU.cnt ah l.length (fun k _=>⟨[(8,.int .i64 k),(7,.int .i64 l.length),(1,.str x),(0,.vec 1 false (l.map encStr))],[]⟩) J () (by rw[hJ]; exact .zero) (by simp) fun k _ hk hj=>?_
 have hw:=wrap64 (n:=(k:Int)+1) (by omega) (by omega)
 have hj' : iG (fun u=>!sEq u x) l k:=by rw[hJ] at hj; exact hj
 by_cases g1:k<l.length
 ·have hq:sEq x l[k]=sEq l[k] x:=by rw[Bool.eq_iff_iff,qo,qo]; exact eq_comm
  cases e1:sEq l[k] x
  ·simp[g1,hq,e1,hw]
   exact⟨(),by rw[hJ]; exact hj'.step g1 (by simp[e1])⟩
  ·have:=auW g1 hj' e1
   simp[g1,hq,e1]
   rw[← hB,this]
 ·have:B=-1:=by rw[← hB]; exact ar6 hj' g1
  have w1:=wrap64 (n:=-1) (by omega) (by omega)
  simp[g1,this,w1]
theorem adP (l:List S) (x:S):Ret prog M.zx [.vec 1 false (l.map encStr),.str x] (.bool (l.any fun u=>sEq u x)):=by
 refine Ret.go ah aeS (by simp) fun hb w0 F0 hG=>?_
 rw[← asz]
 simp
 refine aj.ret (agp l x) ?_
 simp
theorem ac6 (l:List S) (fid:Nat) (caps:List PV) (p:S→Bool) (hc:∀ hl,ni hl caps=caps) (hk:∀ hl,jo hl caps=[]) (hok:∀ hl,okL hl caps) (hp:∀ s∈l,Ret prog fid (.str s::caps) (.bool (p s))):Ret prog M.ze [.vec 1 false (l.map encStr),.fn fid [] caps] (.int .i64 (XW p l)):=by
 refine Ret.go ah adx (by simp) fun hb w0 F0 hG=>?_
 simp only[fu,gQ,List.length_map,LIM,and_true] at hb
 generalize hB:XW p l=B
 obtain⟨J,hJ⟩ : ∃ J:Nat→Unit→Prop,J=fun k _=>iG (fun u=>!p u) l k:=⟨_,rfl⟩
 simp
 refine aU.cnt ah l.length (fun k _=>⟨[(8,.int .i64 k),(7,.int .i64 l.length),(1,.fn fid [] caps),(0,.vec 1 false (l.map encStr))],[]⟩) J () (by rw[hJ]; exact .zero) (by simp) fun k _ hk' hj=>?_
 have hw:=wrap64 (n:=(k:Int)+1) (by omega) (by omega)
 have hj' : iG (fun u=>!p u) l k:=by rw[hJ] at hj; exact hj
 by_cases g1:k<l.length
 ·cases e1:p l[k]
  ·simp[g1,hw]
   refine aj.ret (r:=.bool (p l[k])) (by simp[hc]; exact hp _ (List.getElem_mem g1)) ?_
   simp[e1,hc,hk,hok,hw]
   exact⟨g1,(),by rw[hJ]; exact hj'.step g1 (by simp[e1])⟩
  ·have:=auW g1 hj' e1
   simp[g1,hw]
   refine aj.ret (r:=.bool (p l[k])) (by simp[hc]; exact hp _ (List.getElem_mem g1)) ?_
   simp[e1,hc,hk,hok,hw]
   rw[← hB,this]
 ·have:B=-1:=by rw[← hB]; exact ar6 hj' g1
  have w1:=wrap64 (n:=-1) (by omega) (by omega)
  simp[g1,this,w1]
theorem aaC (l:List S) (fid:Nat) (caps:List PV) (p:S→Bool) (hc:∀ hl,ni hl caps=caps) (hk:∀ hl,jo hl caps=[]) (hok:∀ hl,okL hl caps) (hp:∀ s∈l,Ret prog fid (.str s::caps) (.bool (p s))):Ret prog M.vV [.vec 1 false (l.map encStr),.fn fid [] caps] (.bool (l.any p)):=by
 refine Ret.go ah aaV (by simp) fun hb w0 F0 hG=>?_
 rw[← asz]
 simp
 refine aj.ret (r:=.int .i64 (XW p l)) (by simp[hc]; exact ac6 l fid caps p hc hk hok hp) ?_
 simp[hc,hk,hok]
theorem afH (l:List Ob) (fid:Nat) (caps:List PV) (p:Ob→Bool) (hc:∀ hl,ni hl caps=caps) (hk:∀ hl,jo hl caps=[]) (hok:∀ hl,okL hl caps) (hp:∀ s∈l,Ret prog fid (.agg (cO s)::caps) (.bool (p s))):Ret prog M.Dw [.vec 12 false (l.map av),.fn fid [] caps] (.int .i64 (XW p l)):=by
 refine Ret.go ah afP (by simp) fun hb w0 F0 hG=>?_
 simp only[fu,gQ,List.length_map,LIM,and_true] at hb
 generalize hB:XW p l=B
 obtain⟨J,hJ⟩ : ∃ J:Nat→Unit→Prop,J=fun k _=>iG (fun u=>!p u) l k:=⟨_,rfl⟩
 simp
 refine aU.cnt ah l.length (fun k _=>⟨[(8,.int .i64 k),(7,.int .i64 l.length),(1,.fn fid [] caps),(0,.vec 12 false (l.map av))],[]⟩) J () (by rw[hJ]; exact .zero) (by simp) fun k _ hk' hj=>?_
 have hw:=wrap64 (n:=(k:Int)+1) (by omega) (by omega)
 have hj' : iG (fun u=>!p u) l k:=by rw[hJ] at hj; exact hj
 by_cases g1:k<l.length
 ·have h0:=hp l[k] (List.getElem_mem g1)
  cases e1:p l[k]
  ·simp[g1,hw]
   refine aj.ret (r:=.bool (p l[k])) (by simp[hc]; exact h0) ?_
   simp[e1,hc,hk,hok,hw]
   exact⟨g1,(),by rw[hJ]; exact hj'.step g1 (by simp[e1])⟩
  ·have:=auW g1 hj' e1
   simp[g1,hw]
   refine aj.ret (r:=.bool (p l[k])) (by simp[hc]; exact h0) ?_
   simp[e1,hc,hk,hok,hw]
   rw[← hB,this]
 ·have:B=-1:=by rw[← hB]; exact ar6 hj' g1
  have w1:=wrap64 (n:=-1) (by omega) (by omega)
  simp[g1,this,w1]
theorem adh (l:List Ob) (fid:Nat) (caps:List PV) (p:Ob→Bool) (hc:∀ hl,ni hl caps=caps) (hk:∀ hl,jo hl caps=[]) (hok:∀ hl,okL hl caps) (hp:∀ s∈l,Ret prog fid (.agg (cO s)::caps) (.bool (p s))):Ret prog M.yX [.vec 12 false (l.map av),.fn fid [] caps] (.bool (l.any p)):=by
 refine Ret.go ah ada (by simp) fun hb w0 F0 hG=>?_
 rw[← asz]
 simp
 refine aj.ret (r:=.int .i64 (XW p l)) (by simp[hc]; exact afH l fid caps p hc hk hok hp) ?_
 simp[hc,hk,hok]
end Go.Proofs.YtfilonnphgnplaaGreatDoor.Pv
set_option maxRecDepth 100000
namespace Go.Proofs.YtfilonnphgnplaaGreatDoor.Pv
open Go Go.Tidy
def zM (a:Int) (k:Nat) (b:Bool):Int:=if b then IntKind.u8.wrap ((BitVec.ofInt IntKind.u8.bits a ||| BitVec.ofInt IntKind.u8.bits (IntKind.u8.wrap (1*2 ^ (min (k:Int).toNat IntKind.u8.bits)))).toNat:Int) else a
theorem aI2 (n:Int):0≤IntKind.u8.wrap n∧IntKind.u8.wrap n≤255:=by
 simp[IntKind.wrap,IntKind.bits,IntKind.signed]
 omega
def alF:List Bool→Nat→Int→Int
 | [],_,a=>a
 | b::l,k,a=>alF l (k+1) (zM a k b)
def aGf (t:Ty):List Bool:=[t.null,t.fls,t.tru,!t.nums.isEmpty,t.any||!t.texts.isEmpty,!t.arrays.isEmpty,!t.objects.isEmpty]
def ao8 (t:Ty):Int:=if t.all then 127 else alF (aGf t) 0 0
theorem aAF (t:Ty):decide (ao8 t=0)=never t:=by
 unfold ao8 never bare aGf
 generalize t.all=a,t.null=b0,t.fls=b1,t.tru=b2,t.nums.isEmpty=b3,t.any=b4,t.texts.isEmpty=b5,t.arrays.isEmpty=b6,t.objects.isEmpty=b7
 revert a b0 b1 b2 b3 b4 b5 b6 b7
 decide
set_option maxHeartbeats 4000000 in
theorem axT (t:Ty):Ret prog M.acg [.agg (cT t)] (.int .u8 (ao8 t)):=by
 refine Ret.go ah axd (by simp) fun hb w0 F0 hG=>?_
 unfold ao8 aGf
 cases ha:t.all
 ·simp[ha]
  intro v
  have ne:∀ {α:Type} (l:List α),decide (0<l.length)=!l.isEmpty:=fun l=>by cases l<;>simp
  simp only[ne]
  generalize t.null=b0,t.fls=b1,t.tru=b2,(!t.nums.isEmpty)=b3,(t.any||!t.texts.isEmpty)=b4,(!t.arrays.isEmpty)=b5,(!t.objects.isEmpty)=b6
  obtain⟨J,hJ⟩ : ∃ J:Nat→Int→Prop,J=fun k a=>(0≤a∧a≤255)∧alF [b0,b1,b2,b3,b4,b5,b6] 0 0=alF ([b0,b1,b2,b3,b4,b5,b6].drop k) k a:=⟨_,rfl⟩
  generalize hR:alF [b0,b1,b2,b3,b4,b5,b6] 0 0=R at *
  refine aU.cnt ah 7 (fun (k:Nat) (a:Int)=>⟨[(35,.int .i64 k),(34,.agg [.bool b0,.bool b1,.bool b2,.bool b3,.bool b4,.bool b5,.bool b6]),(3,.int .u8 a)],[]⟩) J 0 (by rw[hJ]; exact⟨by omega,by rw[← hR]; rfl⟩) (by simp) fun k a hk hj=>?_
  have hj' : (0≤a∧a≤255)∧R=alF ([b0,b1,b2,b3,b4,b5,b6].drop k) k a:=by rw[hJ] at hj; exact hj
  obtain⟨⟨a1,a2⟩,hj'⟩:=hj'
  have hw:=wrap64 (n:=(k:Int)+1) (by omega) (by omega)
  by_cases g1:k<7
  ·have nxt:∀ (b:Bool) (r:List Bool),[b0,b1,b2,b3,b4,b5,b6].drop k=b::r→J (k+1) (zM a k b):=fun b r e=>by
      rw[hJ]
      refine⟨?_,?_⟩
      ·unfold zM
       split
       ·exact aI2 _
       ·exact⟨a1,a2⟩
      ·rw[hj',← List.drop_drop,e]; rfl
   have hd:∀ b:Bool,[b0,b1,b2,b3,b4,b5,b6][k]? = some b→J (k+1) (zM a k b):=fun b e=>by
    obtain⟨h1,h2⟩:=List.getElem?_eq_some_iff.1 e
    exact nxt b _ (by rw[List.drop_eq_getElem_cons h1,h2])
   have c1:k=0∨k=1∨k=2∨k=3∨k=4∨k=5∨k=6:=by omega
   rcases c1 with rfl|rfl|rfl|rfl|rfl|rfl|rfl
   ·have h:=hd b0 rfl
    have k1:=wrap64 (n:=1) (by omega) (by omega)
    simp
    refine bQ.go ah ?_
    cases b0
    ·simp[zM] at h
     simp[k1]
     exact h
    ·simp[zM] at h
     simp[k1]
     exact h
   ·have h:=hd b1 rfl
    have k1:=wrap64 (n:=2) (by omega) (by omega)
    simp
    refine bQ.go ah ?_
    cases b1
    ·simp[zM] at h
     simp[k1]
     exact h
    ·simp[zM] at h
     simp[k1]
     exact h
   ·have h:=hd b2 rfl
    have k1:=wrap64 (n:=3) (by omega) (by omega)
    simp
    refine bQ.go ah ?_
    cases b2
    ·simp[zM] at h
     simp[k1]
     exact h
    ·simp[zM] at h
     simp[k1]
     exact h
   ·have h:=hd b3 rfl
    have k1:=wrap64 (n:=4) (by omega) (by omega)
    simp
    refine bQ.go ah ?_
    cases b3
    ·simp[zM] at h
     simp[k1]
     exact h
    ·simp[zM] at h
     simp[k1]
     exact h
   ·have h:=hd b4 rfl
    have k1:=wrap64 (n:=5) (by omega) (by omega)
    simp
    refine bQ.go ah ?_
    cases b4
    ·simp[zM] at h
     simp[k1]
     exact h
    ·simp[zM] at h
     simp[k1]
     exact h
   ·have h:=hd b5 rfl
    have k1:=wrap64 (n:=6) (by omega) (by omega)
    simp
    refine bQ.go ah ?_
    cases b5
    ·simp[zM] at h
     simp[k1]
     exact h
    ·simp[zM] at h
     simp[k1]
     exact h
   ·have h:=hd b6 rfl
    have k1:=wrap64 (n:=7) (by omega) (by omega)
    simp
    refine bQ.go ah ?_
    cases b6
    ·simp[zM] at h
     simp[k1]
     exact h
    ·simp[zM] at h
     simp[k1]
     exact h
  ·obtain rfl:k=7:=by omega
   have:R=a:=hj'
   simp[this]
 ·simp[ha]
end Go.Proofs.YtfilonnphgnplaaGreatDoor.Pv
set_option maxRecDepth 100000
namespace Go.Proofs.YtfilonnphgnplaaGreatDoor.Pv
open Go Go.Tidy
theorem axO (t:Ty):Ret prog M.acO [.agg (cT t)] (.bool (never t)):=by
 refine Ret.go ah aw3 (by simp) fun hb w0 F0 hG=>?_
 rw[← aAF]
 simp
 intros
 refine aj.ret (axT t) ?_
 simp
def Zw (k:Nat):Bool:=k == 3||k == 4||k == 5||k == 6
theorem BG (k:Nat) (hk:k<7):Ret prog M.QO [.int .i64 k,.ref [.int .u8 120]] (.bool (Zw k)):=by
 refine Ret.go ah alJ (by simp) fun hb w0 F0 hG=>?_
 have c1:k=0∨k=1∨k=2∨k=3∨k=4∨k=5∨k=6:=by omega
 rcases c1 with rfl|rfl|rfl|rfl|rfl|rfl|rfl<;>simp[Zw]<;>decide
def aty:Ty:=.mk false false false false [⟨ByteArray.empty,ByteArray.empty⟩] true [] [.mk dn 0 (-1)] [.mk [] [] [] dn]
set_option maxHeartbeats 4000000 in
theorem aIF:Ret prog M.ZY [.int .u8 120] (.agg (cT aty)):=by
 refine Ret.go ah ao4 (by simp) fun hb w0 F0 hG=>?_
 have kw:IntKind.u8.wrap ((120 % 2 ^ IntKind.u8.bits &&& 127 % 2 ^ IntKind.u8.bits:Nat):Int)=120:=by decide
 have h0:=BG 0 (by decide)
 have h1:=BG 1 (by decide)
 have h2:=BG 2 (by decide)
 have h3:=BG 3 (by decide)
 have h4:=BG 4 (by decide)
 have h5:=BG 5 (by decide)
 have h6:=BG 6 (by decide)
 simp only[show Zw 0=false by decide,show Zw 1=false by decide,show Zw 2=false by decide,show Zw 3=true by decide,show Zw 4=true by decide,show Zw 5=true by decide,show Zw 6=true by decide] at h0 h1 h2 h3 h4 h5 h6
 simp[kw]
 intro v1 v2
 refine aj.ret (r:=.bool false) (by simpa using h0) ?_
 simp
 refine aj.ret (r:=.bool false) (by simpa using h1) ?_
 simp
 refine aj.ret (r:=.bool false) (by simpa using h2) ?_
 simp
 refine aj.ret (r:=.bool true) (by simpa using h4) ?_
 simp
 intro v4
 refine bQ.go ah ?_
 simp
 refine aj.ret (r:=.bool true) (by simpa using h3) ?_
 simp
 intro v5
 refine bQ.go ah ?_
 simp
 refine aj.ret (r:=.bool true) (by simpa using h5) ?_
 simp
 refine aj.ret oz ?_
 simp
 intro v6
 refine bQ.go ah ?_
 simp
 refine aj.ret (r:=.bool true) (by simpa using h6) ?_
 simp
 refine aj.ret oz ?_
 simp[aty,dn,qM]
 rfl
theorem aMk {t:Ty} (h:t.all=true):yU t=laidAll:=by simp[yU,h]
theorem aA9 (t:Ty):Ret prog M.adY [.agg (cT t)] (.agg (cT (yU t))):=by
 refine Ret.go ah azu (by simp) fun hb w0 F0 hG=>?_
 cases ha:t.all
 ·simp[ha,yU]
 ·rw[aMk ha]
  simp[ha]
  intros
  refine aj.ret aIF ?_
  simp[aty,laidAll]
end Go.Proofs.YtfilonnphgnplaaGreatDoor.Pv
set_option maxRecDepth 100000
namespace Go.Proofs.YtfilonnphgnplaaGreatDoor.Pv
open Go Go.Tidy
theorem ahM {a b:S} (ha:vG a=true) (hb:vG b=true):aby a b=dX (fQ a b):=by simp[aby,ha,hb]
theorem aua (s:Span) (h1:gu s.low=true) (h2:gu s.high=true):Ret prog M.aaN [.agg (dH s)] (.bool (abB s)):=by
 refine Ret.go ah atA (by simp) fun hb w0 F0 hG=>?_
 unfold abB
 cases e1:fU s.low
 ·cases e2:fU s.high
  ·simp[e1,e2]
   intros
   refine aj.ret (abY s.low s.high) ?_
   rw[ahM (gy h1 e1) (gy h2 e2)]
   cases fQ s.low s.high<;>simp[dX,e1,e2]
  ·simp[e1,e2]
 ·simp[e1]
theorem aGX (a b:Span):Zk a b=(abB a||((fU b.low||(!fU a.low&&(fQ b.low a.low).isLE))&&(fU b.high||(!fU a.high&&(fQ a.high b.high).isLE)))):=by
 unfold Zk
 rw[afZ a.low b.low]
 cases fQ a.low b.low<;>rfl
set_option maxHeartbeats 4000000 in
theorem azr (a b:Span) (a1:gu a.low=true) (a2:gu a.high=true) (b1:gu b.low=true) (b2:gu b.high=true):Ret prog M.aeb [.agg (dH a),.agg (dH b)] (.bool (Zk a b)):=by
 refine Ret.go ah aC2 (by simp) fun hb w0 F0 hG=>?_
 rw[aGX]
 have c1:=abY b.low a.low
 have c2:=abY a.high b.high
 simp
 intro v1 v2
 refine aj.ret (aua a a1 a2) ?_
 cases e0:abB a
 ·have fin:∀ (st:St) (ks:List KF) (Q:Ex→St→Prop) (r:PV),True:=fun _ _ _ _=>trivial
  cases e1:fU b.low
  ·cases e2:fU a.low
   ·rw[ahM (gy b1 e1) (gy a1 e2)] at c1
    simp[e1,e2]
    refine aj.ret c1 ?_
    cases fQ b.low a.low
    all_goals
      simp[dX,e1,e2]
    all_goals
      cases e3:fU b.high
      ·cases e4:fU a.high
       ·rw[ahM (gy a2 e4) (gy b2 e3)] at c2
        simp[e3,e4]
        refine aj.ret c2 ?_
        cases fQ a.high b.high<;>simp[dX,e3,e4]
       ·simp[e3,e4]
      ·simp[e3]
   ·simp[e1,e2]
  ·cases e3:fU b.high
   ·cases e4:fU a.high
    ·rw[ahM (gy a2 e4) (gy b2 e3)] at c2
     simp[e1,e3,e4]
     refine aj.ret c2 ?_
     cases fQ a.high b.high<;>simp[dX,e1,e3,e4]
    ·simp[e1,e3,e4]
   ·simp[e1,e3]
 ·simp
theorem akQ (a b:Ty):Ret prog M.OZ [.agg (cT a),.agg (cT b)] (.bool ((!a.null||b.null)&&(!a.fls||b.fls)&&(!a.tru||b.tru))):=by
 refine Ret.go ah ak8 (by simp) fun hb w0 F0 hG=>?_
 cases e1:a.null<;>cases e2:a.fls<;>cases e3:a.tru<;>cases e4:b.null<;>cases e5:b.fls<;>simp[e1,e2,e3,e4,e5]
theorem amy (a b:Ty) (ha:∀ s∈a.nums,jq s=true) (hb' : ∀ s∈b.nums,jq s=true):Ret prog M.Sj [.agg (cT a),.agg (cT b)] (.bool (Yu a.nums b.nums)):=by
 refine Ret.go ah ama (by simp) fun hb w0 F0 hG=>?_
 unfold Yu
 cases ea:a.nums with
 | nil=>simp[ea]
 | cons x l =>
   have q:¬ ((l.length:Int)+1=0):=by omega
   have q2:(0:Int)<(l.length:Int)+1:=by omega
   cases eb:b.nums with
   | nil=>simp[ea,eb,q]
   | cons y m =>
     have h1:=abQ.1 (ha x (by simp[ea]))
     have h2:=abQ.1 (hb' y (by simp[eb]))
     have q' : ¬ ((m.length:Int)+1=0):=by omega
     have q3:(0:Int)<(m.length:Int)+1:=by omega
     simp[ea,eb,q,q',q2,q3]
     intros
     refine aH.ret (azr x y h1.1 h1.2.1 h2.1 h2.2.1) ?_
     simp[ea,eb,q,q',q2,q3]
theorem aha (s:S) (b:Ty):Ret prog M.y9 [.str s,.ref (cT b)] (.bool (!b.texts.any fun u=>sEq u s)):=by
 refine Ret.go ah ahU (by simp) fun hb w0 F0 hG=>?_
 simp
 refine aj.ret (adP b.texts s) ?_
 simp
theorem akf (a b:Ty):Ret prog M.O7 [.agg (cT a),.agg (cT b)] (.bool (textsIn a b)):=by
 refine Ret.go ah akD (by simp) fun hb w0 F0 hG=>?_
 have hc:=aaC a.texts M.y9 [.ref (cT b)] (fun s=>!b.texts.any fun u=>sEq u s) (by simp) (by simp) (by simp) (fun s _=>aha s b)
 have hR:textsIn a b=(b.any||(!a.any&&!(a.texts.any fun s=>!b.texts.any fun u=>sEq u s))):=by
  unfold textsIn
  congr 2
  rw[List.not_any_eq_all_not]
  simp
 rw[hR]
 generalize (a.texts.any fun s=>!b.texts.any fun u=>sEq u s)=R at *
 cases e1:b.any
 ·cases e2:a.any
  ·simp[e1,e2]
   intros
   refine aj.ret (r:=.bool R) (by simpa using hc) ?_
   simp
  ·simp[e1,e2]
 ·simp[e1]
end Go.Proofs.YtfilonnphgnplaaGreatDoor.Pv
set_option maxRecDepth 100000
namespace Go.Proofs.YtfilonnphgnplaaGreatDoor.Pv
open Go Go.Tidy
set_option maxHeartbeats 4000000 in
theorem aiB (o:Ob) (n:S) (h1:o.names.length=o.fields.length) (h2:o.names.length=o.must.length) (hs:SSs o.names):Ret prog M.Uy [.agg (cO o),.str n] (.tup [.agg (cT (bg o n).1),.bool (bg o n).2]):=by
 obtain⟨i,i1,i2,i3⟩:=aIk o.names n hs
 have hc:=FU o.names n i i1 i2 i3
 have hR:bg o n=if h:o.names[i]? = some n then (o.fields[i]'(by have:=(List.getElem?_eq_some_iff.1 h).1; omega),o.must[i]'(by have:=(List.getElem?_eq_some_iff.1 h).1; omega)) else (o.rest,false):=by
  split
  ·rename_i h
   obtain⟨hi,e⟩:=List.getElem?_eq_some_iff.1 h
   exact azP h1 h2 hi hs e
  ·rename_i h
   exact azj (aIy hs i2 i3 h)
 generalize bg o n=R at *
 refine Ret.go ah axe (by simp) fun hb w0 F0 hG=>?_
 simp
 intros
 refine aj.ret hc ?_
 by_cases h:o.names[i]? = some n
 ·have hi:i<o.names.length:=(List.getElem?_eq_some_iff.1 h).1
  have g2:i<o.fields.length:=by omega
  have g3:i<o.must.length:=by omega
  rw[dif_pos h] at hR
  simp[h,g2,g3,hR]
 ·rw[dif_neg h] at hR
  simp[h,hR]
theorem l6.ss {t:Ty} (h:l6 t) {o:Ob} (ho:o∈t.objects):SSs o.names:=by
 have:=cu h.1
 exact kG (this.2.2.2.2.2.2.2 o ho)
theorem ayS (a b:Ob) (hl:a.names.length+b.names.length≤68719476736):iQ prog M.ach [.agg (cO a),.agg (cO b)] 1 ((a.names++b.names).map encStr):=by
 refine iQ.go ah awk (by simp) fun hb w0 F0 hG=>?_
 have hc:=sW false (a.names.map encStr) (by simp; omega)
 simp
 intros
 refine aH.ru hc ?_
 simp[hl]
 exact List.take_of_length_le (by simp)
set_option maxHeartbeats 4000000 in
theorem aEI (x y:Ob) (hl:x.names.length+y.names.length≤68719476736) (x1:x.names.length=x.fields.length) (x2:x.names.length=x.must.length) (y1:y.names.length=y.fields.length) (y2:y.names.length=y.must.length) (xs:SSs x.names) (ys:SSs y.names)
 (ih:∀ n,Ret prog M.oG [.agg (cT (bg x n).1),.agg (cT (bg y n).1)] (.bool (nU (bg y n).1 (bg x n).1))) (ihr:Ret prog M.oG [.agg (cT x.rest),.agg (cT y.rest)] (.bool (nU y.rest x.rest))) :
 Ret prog M.O8 [.agg (cO x),.agg (cO y)] (.bool (qC y x)):=by
 refine Ret.go ah aAU (by simp) fun hb w0 F0 hG=>?_
 simp only[fu,gQ,List.length_map,LIM,and_true] at hb
 rw[aok]
 have hnm:=ayS x y hl
 have hlN:(x.names++y.names).length≤68719476736:=by simpa using hl
 generalize x.names++y.names=N at *
 generalize hB:N.all (yj y x)=B
 simp
 intro v1 v2
 refine aj.ru hnm ?_
 intro v3 _
 simp
 obtain⟨J,hJ⟩ : ∃ J:Nat→Unit→Prop,J=fun k _=>iG (yj y x) N k:=⟨_,rfl⟩
 refine aU.cnt ah N.length (fun k _=>⟨[(15,.int .i64 k),(14,.int .i64 N.length),(13,.own (13,v3) 1 0 N.length false),(2,.ptr (2,v1) 12 0 0),(3,.ptr (3,v2) 12 0 0)],[((13,v3),some ⟨1,N.map encStr,false,false⟩),((3,v2),some ⟨12,[cO y],false,true⟩),((2,v1),some ⟨12,[cO x],false,true⟩)]⟩) J () (by rw[hJ]; exact .zero) (by simp[aK]) fun k _ hk hj=>?_
 have hw:=wrap64 (n:=(k:Int)+1) (by omega) (by omega)
 have hj' : iG (yj y x) N k:=by rw[hJ] at hj; exact hj
 by_cases g1:k<N.length
 ·simp[g1]
  refine aj.ret (aiB x N[k] x1 x2 xs) ?_
  simp[g1]
  intros
  refine aj.ret (aiB y N[k] y1 y2 ys) ?_
  have hs:yj y x N[k]=((!(bg y N[k]).2||(bg x N[k]).2)&&nU (bg y N[k]).1 (bg x N[k]).1):=rfl
  have ih':=ih N[k]
  generalize bg y N[k]=fy at *
  generalize bg x N[k]=fx at *
  obtain⟨ty,my⟩:=fy
  obtain⟨tx,mx⟩:=fx
  simp only at hs ih' ⊢
  have no:yj y x N[k]=false→B=false:=fun h=>hB ▸ uY g1 h
  have yes:yj y x N[k]=true→J (k+1) ():=fun h=>by rw[hJ]; exact hj'.step g1 h
  cases my
  ·simp
   intros
   refine aj.ret ih' ?_
   cases hbt:nU ty tx<;>rw[hbt] at hs
   ·simp[no (by rw[hs]; simp)]
   ·simp[hw,aK,g1]
    exact⟨(),yes (by rw[hs]; simp)⟩
  ·cases mx
   ·simp[no (by rw[hs]; simp)]
   ·simp
    intros
    refine aj.ret ih' ?_
    cases hbt:nU ty tx<;>rw[hbt] at hs
    ·simp[no (by rw[hs]; simp)]
    ·simp[hw,aK,g1]
     exact⟨(),yes (by rw[hs]; simp)⟩
 ·have hB1:B=true:=by rw[← hB]; exact hj'.all g1
  simp[g1]
  refine aj.ret ihr ?_
  simp[hB1]
set_option maxHeartbeats 4000000 in
theorem aAi (a b:Ty) (ih:∀ x∈a.arrays,∀ y∈b.arrays,Ret prog M.oG [.agg (cT x.item),.agg (cT y.item)] (.bool (nU y.item x.item))):Ret prog M.L8 [.agg (cT a),.agg (cT b)] (.bool (Au a.arrays b.arrays)):=by
 refine Ret.go ah ai1 (by simp) fun hb w0 F0 hG=>?_
 clear hb
 generalize hA:a.arrays=la at *
 generalize hB:b.arrays=lb at *
 cases la with
 | nil=>simp[Au,hA]
 | cons x la =>
   have na:¬ ((la.length:Int)+1=0):=by omega
   have na2:(0:Int)<(la.length:Int)+1:=by omega
   cases lb with
   | nil=>simp[Au,hA,hB,na]
   | cons y lb =>
     have nb:¬ ((lb.length:Int)+1=0):=by omega
     have nb2:(0:Int)<(lb.length:Int)+1:=by omega
     have ih':=ih x (by simp) y (by simp)
     simp only[Au,List.isEmpty_cons,Bool.false_or,apy]
     by_cases g1:x.min<y.min
     ·simp[hA,hB,na,nb,na2,nb2,g1]
     by_cases g2:0≤y.max
     ·by_cases g3:x.max<0
      ·simp[hA,hB,na,nb,na2,nb2,g1,g2,g3]
      by_cases g4:y.max<x.max
      ·simp[hA,hB,na,nb,na2,nb2,g1,g2,g3,g4]
      by_cases g5:x.max=0
      ·simp[hA,hB,na,nb,na2,nb2,g1,g2,g3,g4,g5]
      ·simp[hA,hB,na,nb,na2,nb2,g1,g2,g3,g4,g5]
       intros
       refine aj.ret ih' ?_
       simp[g5]
     ·by_cases g5:x.max=0
      ·simp[hA,hB,na,nb,na2,nb2,g1,g2,g5]
      ·simp[hA,hB,na,nb,na2,nb2,g1,g2,g5]
       intros
       refine aj.ret ih' ?_
       simp[g5]
theorem apq (x y:Ob) (ih:Ret prog M.O8 [.agg (cO x),.agg (cO y)] (.bool (qC y x))):Ret prog M.xg [.agg (cO y),.ref (cO x)] (.bool (qC y x)):=by
 refine Ret.go ah af5 (by simp) fun hb w0 F0 hG=>?_
 simp
 intros
 refine aj.ret ih ?_
 simp
set_option maxHeartbeats 4000000 in
theorem avU (a b:Ty) (ih:∀ x∈a.objects,∀ y∈b.objects,Ret prog M.O8 [.agg (cO x),.agg (cO y)] (.bool (qC y x))):Ret prog M.JK [.agg (cT a),.agg (cT b)] (.bool (a.objects.all fun x=>b.objects.any fun y=>qC y x)):=by
 refine Ret.go ah ahK (by simp) fun hb w0 F0 hG=>?_
 simp only[fu,gQ,List.length_map,LIM,and_true] at hb
 generalize hB:(a.objects.all fun x=>b.objects.any fun y=>qC y x)=B
 simp
 intro v1 v2
 obtain⟨J,hJ⟩ : ∃ J:Nat→Unit→Prop,J=fun k _=>iG (fun x=>b.objects.any fun y=>qC y x) a.objects k:=⟨_,rfl⟩
 refine aU.cnt ah a.objects.length (fun k _=>⟨[(10,.int .i64 k),(9,.int .i64 a.objects.length),(8,.vec 12 false (a.objects.map av)),(2,.ptr (2,v1) 9 0 0),(3,.ptr (3,v2) 9 0 0)],[((3,v2),some ⟨9,[cT b],false,true⟩),((2,v1),some ⟨9,[cT a],false,true⟩)]⟩) J () (by rw[hJ]; exact .zero) (by simp) fun k _ hk hj=>?_
 have hw:=wrap64 (n:=(k:Int)+1) (by omega) (by omega)
 have hj' : iG (fun x=>b.objects.any fun y=>qC y x) a.objects k:=by rw[hJ] at hj; exact hj
 by_cases g1:k<a.objects.length
 ·have hm:a.objects[k]∈a.objects:=List.getElem_mem g1
  generalize ho:a.objects[k]=o at *
  have hc:=adh b.objects M.xg [.ref (cO o)] (fun y=>qC y o) (by simp) (by simp) (by simp) (fun y hy=>apq o y (ih o hm y hy))
  simp[g1,ho]
  intros
  cases e:b.objects.any fun y=>qC y o
  ·rw[e] at hc
   refine aj.ret (r:=.bool false) (by simpa using hc) ?_
   have:B=false:=by rw[← hB]; exact uY g1 (by rw[ho]; exact e)
   simp[this]
  ·rw[e] at hc
   refine aj.ret (r:=.bool true) (by simpa using hc) ?_
   simp[hw,g1]
   exact⟨(),by rw[hJ]; exact hj'.step g1 (by rw[ho]; exact e)⟩
 ·have:B=true:=by rw[← hB]; exact hj'.all g1
  simp[g1,this]
set_option maxHeartbeats 4000000 in
theorem aDb (x y:Ty) (fx:l6 x) (fy:l6 y) (ih:∀ y' : Ty,SizeOf.sizeOf y' < SizeOf.sizeOf y→l6 y'→∀ x',l6 x'→Ret prog M.oG [.agg (cT x'),.agg (cT y')] (.bool (nU y' x'))):Ret prog M.oG [.agg (cT x),.agg (cT y)] (.bool (nU y x)):=by
 have hB:=azN y x
 generalize nU y x=B at *
 have r0:=aA9 x
 have fz:=fx.laid
 generalize yU x=z at *
 have s1:=(cu fz.1).2.2.2.2.1
 have s2:=(cu fy.1).2.2.2.2.1
 have q1:=akQ z y
 have q2:=amy z y s1 s2
 have q3:=akf z y
 have q4:=aAi z y fun a ha b hb'=>ih b.item (yc hb') (fy.item hb') a.item (fz.item ha)
 have q5:=avU z y fun a ha b hb'=>by
  obtain⟨a1,a2,a3⟩:=fz.names ha
  obtain⟨b1,b2,b3⟩:=fy.names hb'
  refine aEI a b (by omega) a2 a3 b2 b3 ((fz.ss ha)) (fy.ss hb') (fun n=>?_) (ih b.rest (uQ hb') (fy.rest hb') a.rest (fz.rest ha))
  have fa:l6 (bg a n).1:=by
   rcases ZL a n with h|h
   ·exact fz.field ha h
   ·rw[h]; exact fz.rest ha
  rcases ZL b n with h|h
  ·exact ih _ (uh hb' h) (fy.field hb' h) _ fa
  ·rw[h]; exact ih _ (uQ hb') (fy.rest hb') _ fa
 refine Ret.go ah ayi (by simp) fun hb w0 F0 hG=>?_
 simp
 intro v1 v2
 refine aj.ret (axO x) ?_
 cases e1:never x
 ·cases e2:y.all
  ·rw[e1,e2,Bool.false_or,Bool.false_or] at hB
   have w1:IntKind.i64.wrap 1=1:=wrap64 (by omega) (by omega)
   have w2:IntKind.i64.wrap 2=2:=wrap64 (by omega) (by omega)
   have w3:IntKind.i64.wrap 3=3:=wrap64 (by omega) (by omega)
   have w4:IntKind.i64.wrap 4=4:=wrap64 (by omega) (by omega)
   have w5:IntKind.i64.wrap 5=5:=wrap64 (by omega) (by omega)
   simp[e2]
   refine aU.rnd ah (.s (.s (.s (.s (.s (.s .z)))))) ?_
   simp only[l9]
   simp
   intros
   refine aH.ret r0 ?_
   simp
   refine aH.ret q1 ?_
   cases c1:((!z.null||y.null)&&(!z.fls||y.fls)&&(!z.tru||y.tru))<;>rw[c1] at hB
   ·simp[hB]
   simp[w1,l9]
   intros
   refine aH.ret r0 ?_
   simp
   refine aH.ret q2 ?_
   cases c2:Yu z.nums y.nums<;>rw[c2] at hB
   ·simp[hB]
   simp[w2,l9]
   intros
   refine aH.ret r0 ?_
   simp
   refine aH.ret q3 ?_
   cases c3:textsIn z y<;>rw[c3] at hB
   ·simp[hB]
   simp[w3,l9]
   intros
   refine aH.ret r0 ?_
   simp
   refine aH.ret q4 ?_
   cases c4:Au z.arrays y.arrays<;>rw[c4] at hB
   ·simp[hB]
   simp[w4,l9]
   intros
   refine aH.ret r0 ?_
   simp
   refine aH.ret q5 ?_
   cases c5:(z.objects.all fun x=>y.objects.any fun p=>qC p x)<;>rw[c5] at hB
   ·simp[hB]
   simp[w5,l9,hB]
  ·simp[e2,hB,e1]
 ·simp[hB,e1]
theorem ax8 (x y:Ty) (fx:l6 x) (fy:l6 y):Ret prog M.oG [.agg (cT x),.agg (cT y)] (.bool (nU y x)):=by
 induction hn:SizeOf.sizeOf y using Nat.strongRecOn generalizing x y with
 | _ n ih =>
   subst hn
   exact aDb x y fx fy fun y' h fy' x' fx'=>ih _ h x' y' fx' fy' rfl
end Go.Proofs.YtfilonnphgnplaaGreatDoor.Pv
set_option maxRecDepth 100000
namespace Go.Proofs.YtfilonnphgnplaaGreatDoor.Pv
open Go Go.Tidy
set_option maxHeartbeats 4000000 in
theorem anu (a b:List Arr) (hl:a.length+b.length≤34359738368) (hT:∀ x∈a,∀ y∈b,Ret prog M.jF [.vec 9 false [eU x.item,eU y.item]] (.agg (cT (jO x.item y.item)))) :
 Ret prog M.Uz [.vec 11 false (a.map dh),.vec 11 false (b.map dh)] (.vec 11 false ((jM a b).map dh)):=by
 refine Ret.go ah ayp (by simp) fun hb w0 F0 hG=>?_
 have hc:=aiU false false (a.map dh) (b.map dh) (by simpa using hl)
 cases a with
 | nil =>
   simp
   intros
   refine aj.ru (by simpa using hc) ?_
   intro v hv
   simp[Dn]
 | cons x a =>
   cases b with
   | nil =>
     simp
     intros
     refine aj.ru (by simpa using hc) ?_
     intro v hv
     simp[Uf]
   | cons y b =>
     have hT:=hT x (by simp) y (by simp)
     have q:¬ ((a.length:Int)+1=0):=by omega
     have q' : ¬ ((b.length:Int)+1=0):=by omega
     have q2:(0:Int)<(a.length:Int)+1:=by omega
     have q3:(0:Int)<(b.length:Int)+1:=by omega
     have e:jM (x::a) (y::b)=[acH x y]:=by simp[jM]
     rw[e,aaW]
     generalize jO x.item y.item=z at *
     simp[q,q',q2,q3]
     intros
     refine aH.ret (r:=.agg (cT z)) (by simpa using hT) ?_
     simp[q,q',q2,q3]
     refine bQ.go ah ?_
     by_cases g1:x.max<0
     ·simp[q,q',q2,q3,g1]
     ·by_cases g2:y.max<0
      ·simp[q,q',q2,q3,g1,g2]
      ·simp[q,q',q2,q3,g1,g2]
def wo (l:List Ty) (k:Nat):Ty :=
 .mk false ((l.take k).any Ty.null) ((l.take k).any Ty.fls) ((l.take k).any Ty.tru) ((l.take k).foldl (fun a t=>yT a t.nums) []) ((l.take k).any Ty.any) ((l.take k).flatMap Ty.texts) ((l.take k).foldl (fun a t=>jM a t.arrays) []) ((l.take k).flatMap Ty.objects)
theorem aHi (l:List Ty) {k:Nat} (hk:k<l.length):wo l (k+1)=.mk false ((wo l k).null||l[k].null) ((wo l k).fls||l[k].fls) ((wo l k).tru||l[k].tru) (yT (wo l k).nums l[k].nums) ((wo l k).any||l[k].any) ((wo l k).texts++l[k].texts) (jM (wo l k).arrays l[k].arrays) ((wo l k).objects++l[k].objects):=by
 unfold wo
 have e:=List.take_succ_eq_append_getElem hk
 rw[e]
 simp only[List.any_append,List.foldl_append,List.flatMap_append,List.any_cons,List.any_nil,List.foldl_cons,List.foldl_nil,List.flatMap_cons,List.flatMap_nil,List.append_nil,Bool.or_false,Ty.alc,Ty.apV,Ty.aqI,Ty.adB,Ty.any_mk,Ty.rU,Ty.sw,Ty.qz]
theorem aIS (l:List Ty):wo l 0=d9:=by simp[wo,d9]
def aCY (g:Ty) (tx:PV):List PV:=[.bool false,.bool g.null,.bool g.fls,.bool g.tru,.vec 2 false (g.nums.map dH),.bool g.any,tx,.vec 11 false (g.arrays.map dh),.vec 12 false (g.objects.map av)]
set_option maxHeartbeats 4000000 in
theorem axU (l:List Ty) (hf:∀ t∈l,ak t=true) (hn:∀ k,k<l.length→((wo l k).nums).length+((l[k]?.getD d9).nums).length≤34359738368)
 (ht:∀ k,k<l.length→((wo l k).texts).length+((l[k]?.getD d9).texts).length≤34359738368) (ho:∀ k,k<l.length→((wo l k).objects).length+((l[k]?.getD d9).objects).length≤34359738368)
 (hsp:∀ k,∀ s∈(wo l k).nums,jq s=true) (hS:agk prog M.qB) (hC:Wz prog M.nK)
 (hA:∀ k (hk:k<l.length),Ret prog M.Uz [.vec 11 false ((wo l k).arrays.map dh),.vec 11 false (l[k].arrays.map dh)] (.vec 11 false ((jM (wo l k).arrays l[k].arrays).map dh))) :
 Ret prog M.jF [.vec 9 false (l.map eU)] (.agg (cT (Ay l))):=by
 refine Ret.go ah apT (by simp) fun hb w0 F0 hG=>?_
 simp only[fu,gQ,List.length_map,LIM,and_true] at hb
 generalize hR:Ay l=R
 simp
 intro v2 v3
 obtain⟨J,hJ⟩ : ∃ J:Nat→Ty→Prop,J=fun k g=>g=wo l k∧(l.take k).any Ty.all=false:=⟨_,rfl⟩
 refine aU.xG ah [(7000003,1,1006)] rfl l.length (fun v k (g:Ty)=>⟨[(9,.int .i64 k),(8,.int .i64 l.length),(7,.vec 9 false (l.map eU)),(3,.ptr (3,v3) 9 0 0),(2,.ptr (2,v2) 9 0 0)],
  [((3,v3),some ⟨9,[aCY g (.own (1006,v) 1 0 g.texts.length false)],false,true⟩),((1006,v),some ⟨1,g.texts.map encStr,false,false⟩),((2,v2),some ⟨9,[M.z1],false,true⟩)]⟩) J d9 (by rw[hJ]; exact⟨(aIS l).symm,by simp⟩) (fun v=>by simp[aCY,d9]) fun v k g hv hk hj=>?_
 have hw:=wrap64 (n:=(k:Int)+1) (by omega) (by omega)
 have hj' : g=wo l k∧(l.take k).any Ty.all=false:=by rw[hJ] at hj; exact hj
 by_cases h1:k<l.length
 ·have hlk:l[k]?.getD d9=l[k]:=by simp[h1]
  have a1:=hn k h1
  have a2:=ht k h1
  have a3:=ho k h1
  have a4:=hsp k
  have a5:=hA k h1
  have a6:∀ s∈l[k].nums,jq s=true:=(cu (hf _ (List.getElem_mem h1))).2.2.2.2.1
  have hs:=aHi l h1
  rw[hlk] at a1 a2 a3
  rw[← hj'.1] at a1 a2 a3 a4 a5 hs
  have ha0:(l.take (k+1)).any Ty.all=l[k].all:=by
   rw[List.take_succ_eq_append_getElem h1,List.any_append,hj'.2]; simp
  generalize htk:l[k]=t at *
  have c1:=azM g.nums t.nums a4 a6 a1
  have c2:=afV false false (g.texts.map encStr) (t.texts.map encStr) (by simpa using a2)
  have c3:=ai7 false false (g.objects.map av) (t.objects.map av) (by simpa using a3)
  cases hal:t.all
  ·simp[h1,aCY,htk,hal]
   intro v5
   refine aj.ret c1 ?_
   simp
   intro v54
   refine aj.ru (by simpa using c2) ?_
   intro v55 _
   simp
   refine aj.ret a5 ?_
   simp
   intro v67
   refine aj.ru (by simpa using c3) ?_
   intro v68 _
   simp[hw,h1]
   refine⟨.mk false (g.null||t.null) (g.fls||t.fls) (g.tru||t.tru) (yT g.nums t.nums) (g.any||t.any) (g.texts++t.texts) (jM g.arrays t.arrays) (g.objects++t.objects),?_,?_⟩
   ·rw[hJ]; exact⟨hs.symm,by rw[ha0,hal]⟩
   ·intro v1
    have e:(List.map av g.objects++List.map av t.objects).take (g.objects.length+t.objects.length)=List.map av g.objects++List.map av t.objects:=List.take_of_length_le (by simp)
    refine⟨⟨rfl,rfl,rfl,rfl,rfl,?_,rfl,?_⟩,?_⟩
    ·show _=(g.texts++t.texts).length
     simp
    ·rw[e]
     show List.map av (g.objects++t.objects)=_
     simp
    ·show leR _ _ (List.map encStr (g.texts++t.texts))
     rw[List.map_append]
     exact aK _ _
  ·have hRe:R=dn:=by
      rw[← hR]
      unfold Ay
      rw[if_pos]
      rw[List.any_eq_true]
      exact⟨t,htk ▸ List.getElem_mem h1,hal⟩
   simp[h1,aCY,htk,hal]
   intros
   refine aj.ret oz ?_
   simp[hRe]
 ·have hk2:k=l.length:=by omega
  have hg:g=wo l l.length:=by rw[← hk2]; exact hj'.1
  have hall:l.any Ty.all=false:=by have:=hj'.2; rwa [hk2,List.take_length] at this
  have hRg:R=.mk false g.null g.fls g.tru g.nums g.any (if g.any then [] else zU kR g.texts) g.arrays g.objects:=by
   rw[← hR,hg]
   unfold Ay wo
   rw[if_neg (by simp[hall])]
   simp
  simp[h1,aCY]
  refine aj.aMb (aHI hS (l:=g.texts) (g:=(1006,v)) (by simp[Jd])) ?_
  simp[Ji]
  have hcc:=fun h e=>aC7 (h:=h) hC (l:=yt g.texts) (g:=(1006,v)) e
  simp only[afa] at hcc
  refine aj.aMb (hcc _ (by simp)) ?_
  simp[Ji]
  have hfin:((wH (yt g.texts)).map Jd).take (o8 (yt g.texts)).length=(zU kR g.texts).map encStr:=by
   rw[← aB9]
   unfold wH
   rw[List.map_append,List.take_left' (by simp)]
   rfl
  have hle:(o8 (yt g.texts)).length≤(wH (yt g.texts)).length:=by unfold wH; simp
  generalize (o8 (yt g.texts)).length=m at *
  generalize hrows:(wH (yt g.texts)).map Jd=rows at *
  have hlr:m≤rows.length:=by rw[← hrows]; simpa using hle
  refine bQ.go ah ?_
  cases hany:g.any
  ·rw[hany] at hRg
   simp[hany,hRg,hfin,hlr]
  ·rw[hany] at hRg
   simp[hany,hRg,hfin,hlr]
end Go.Proofs.YtfilonnphgnplaaGreatDoor.Pv
set_option maxRecDepth 100000
namespace Go.Proofs.YtfilonnphgnplaaGreatDoor.Pv
open Go Go.Tidy
def okA (NM:List S) (n m:Nat) (x:Arr):Prop:=iw x=true∧ay x.item≤n∧bdT NM m x.item
theorem aLe {NM:List S} {n m k:Nat} {a b:List Arr} (ha:∀ x∈a,okA NM n m x) (hb:∀ x∈b,okA NM n k x):∀ x∈jM a b,okA NM n (m+k) x:=by
 have hF:=ajH a b (fun x hx=>(ha x hx).1) (fun x hx=>(hb x hx).1)
 intro x hx
 refine⟨hF x hx,?_⟩
 cases a with
 | nil =>
   rw[Dn] at hx
   exact⟨(hb x hx).2.1,Ak (by omega) _ (hb x hx).2.2⟩
 | cons a0 a =>
   cases b with
   | nil =>
     rw[Uf] at hx
     exact⟨(ha x hx).2.1,Ak (by omega) _ (ha x hx).2.2⟩
   | cons b0 b =>
     have e:jM (a0::a) (b0::b)=[acH a0 b0]:=by simp[jM]
     rw[e,List.mem_singleton] at hx
     subst hx
     have h1:=ha a0 (by simp)
     have h2:=hb b0 (by simp)
     rw[aaW]
     exact⟨amV n _ _ h1.2.1 h2.2.1,aBv h1.2.2 h2.2.2⟩
theorem aBe {NM:List S} {n m:Nat} {t:Ty} (hf:ak t=true) (hn:ay t≤n+1) (hb:bdT NM m t):∀ x∈t.arrays,okA NM n m x:=fun x hx =>
 ⟨(cu hf).2.2.2.2.2.2.1 x hx,(qx.1 hn).1 x hx,(mH.1 hb).2.2.1 x hx⟩
def okW (NM:List S) (n:Nat) (ws:List (Nat × Ty)):Prop:=∀ p∈ws,ak p.2=true∧ay p.2≤n∧bdT NM p.1 p.2
def yC (ws:List (Nat × Ty)):Nat:=(ws.map (·.1)).sum
theorem azX {NM:List S} {n:Nat}:∀ (ws:List (Nat × Ty)) (acc:List Arr) (m:Nat),okW NM (n+1) ws→(∀ x∈acc,okA NM n m x) →
 ∀ x∈(ws.map (·.2)).foldl (fun a t=>jM a t.arrays) acc,okA NM n (m+yC ws) x
 | [],acc,m,_,ha=>fun x hx=>by simpa[yC] using ha x hx
 | (k,t)::ws,acc,m,hw,ha=>by
   have h0:=hw (k,t) (by simp)
   intro x hx
   have:=azX ws (jM acc t.arrays) (m+k) (fun p hp=>hw p (by simp[hp])) (aLe ha (aBe h0.1 h0.2.1 h0.2.2)) x (by simpa using hx)
   have e:m+k+yC ws=m+yC ((k,t)::ws):=by simp[yC]; omega
   rwa [e] at this
theorem akt:∀ (l:List Ty) (acc:List Span),(∀ t∈l,ak t=true)→(∀ s∈acc,jq s=true)→acc.length≤1 →
 (∀ s∈l.foldl (fun a t=>yT a t.nums) acc,jq s=true)∧(l.foldl (fun a t=>yT a t.nums) acc).length≤1
 | [],acc,_,ha,hb=>⟨ha,hb⟩
 | t::l,acc,h,ha,hb=>by
   have hs:=cu (h t (by simp))
   exact akt l (yT acc t.nums) (fun x hx=>h x (by simp[hx])) (amK ha hs.2.2.2.2.1) (aAl hb hs.2.2.2.1)
theorem au8:∀ (l:List Ty) (acc:List Arr),(∀ t∈l,ak t=true)→acc.length≤1→(l.foldl (fun a t=>jM a t.arrays) acc).length≤1
 | [],acc,_,hb=>hb
 | t::l,acc,h,hb=>au8 l (jM acc t.arrays) (fun x hx=>h x (by simp[hx])) (avA _ _ hb (cu (h t (by simp))).2.2.2.2.2.1)
theorem aij {NM:List S} {n:Nat}:∀ (ws:List (Nat × Ty)),okW NM n ws→((ws.map (·.2)).flatMap Ty.texts).length≤4*yC ws∧((ws.map (·.2)).flatMap Ty.objects).length≤yC ws
 | [],_=>by simp[yC]
 | (k,t)::ws,hw=>by
   have h0:=mH.1 (hw (k,t) (by simp)).2.2
   have:=aij ws fun p hp=>hw p (by simp[hp])
   simp only[List.map_cons,List.flatMap_cons,List.length_append,yC,List.sum_cons] at *
   omega
theorem akB (ws:List (Nat × Ty)) {k:Nat} (hk:k<ws.length):yC (ws.take k)+ws[k].1≤yC ws:=by
 have e:yC (ws.take (k+1))=yC (ws.take k)+ws[k].1:=by
  have e0:=List.take_succ_eq_append_getElem hk
  rw[yC,e0,List.map_append,List.sum_append]
  rfl
 have:yC ws=yC (ws.take (k+1))+yC (ws.drop (k+1)):=by
  simp only[yC]
  rw[← List.sum_append,← List.map_append,List.take_append_drop]
 omega
theorem aof {NM:List S} {n:Nat} {ws:List (Nat × Ty)} (h:okW NM n ws) (k:Nat):okW NM n (ws.take k):=fun p hp=>h p (List.mem_of_mem_take hp)
set_option maxHeartbeats 1000000 in
theorem ana (hS:agk prog M.qB) (hC:Wz prog M.nK) (NM:List S) (n:Nat) (ws:List (Nat × Ty)) (hw:okW NM (n+1) ws) (hB:yC ws≤4294967296)
 (ih:∀ ws' : List (Nat × Ty),okW NM n ws'→yC ws'≤4294967296→(∃ p∈ws,p.2.arrays≠[])→Ret prog M.jF [.vec 9 false ((ws'.map (·.2)).map eU)] (.agg (cT (Ay (ws'.map (·.2)))))) :
 Ret prog M.jF [.vec 9 false ((ws.map (·.2)).map eU)] (.agg (cT (Ay (ws.map (·.2))))):=by
 have hlen:(ws.map (·.2)).length=ws.length:=by simp
 have htk:∀ k,(ws.map (·.2)).take k=(ws.take k).map (·.2):=fun k=>by rw[List.map_take]
 have hget:∀ k (hk:k<ws.length),(ws.map (·.2))[k]?.getD d9=ws[k].2:=fun k hk=>by simp[hk]
 have hget' : ∀ k (hk:k<(ws.map (·.2)).length),(ws.map (·.2))[k]=(ws[k]'(by simpa using hk)).2:=fun k hk=>by simp
 have hfl:∀ t∈ws.map (·.2),ak t=true:=fun t ht=>by
  obtain⟨p,hp,rfl⟩:=List.mem_map.1 ht
  exact (hw p hp).1
 have hft:∀ k,∀ t∈(ws.map (·.2)).take k,ak t=true:=fun k t ht=>hfl t (List.mem_of_mem_take ht)
 refine axU _ hfl (fun k hk=>?_) (fun k hk=>?_) (fun k hk=>?_) (fun k=>?_) hS hC (fun k hk=>?_)
 ·have hk' : k<ws.length:=by simpa using hk
  rw[hget k hk']
  have h1:=(akt _ [] (hft k) (by simp) (by simp)).2
  have h2:=(cu (hw _ (List.getElem_mem hk')).1).2.2.2.1
  simp only[wo,Ty.adB]
  omega
 ·have hk' : k<ws.length:=by simpa using hk
  rw[hget k hk']
  have h1:=(aij _ (aof hw k)).1
  have h2:=(mH.1 (hw _ (List.getElem_mem hk')).2.2).1
  have h3:=akB ws hk'
  simp only[wo,Ty.rU,htk]
  omega
 ·have hk' : k<ws.length:=by simpa using hk
  rw[hget k hk']
  have h1:=(aij _ (aof hw k)).2
  have h2:=(mH.1 (hw _ (List.getElem_mem hk')).2.2).2.1
  have h3:=akB ws hk'
  simp only[wo,Ty.qz,htk]
  omega
 ·exact (akt _ [] (hft k) (by simp) (by simp)).1
 ·have hk' : k<ws.length:=by simpa using hk
  rw[hget' k hk]
  have h0:=hw _ (List.getElem_mem hk')
  have h3:=akB ws hk'
  refine anu _ _ ?_ fun x hx y hy=>?_
  ·have h1:=au8 _ [] (hft k) (by simp)
   have h2:=(cu h0.1).2.2.2.2.2.1
   simp only[wo,Ty.sw]
   omega
  ·simp only[wo,Ty.sw,htk] at hx
   have hx':=azX (ws.take k) [] 0 (aof hw k) (by simp) x hx
   rw[Nat.zero_add] at hx'
   have hy':=aBe h0.1 h0.2.1 h0.2.2 y hy
   have fx:=(gY hx'.1).2.2.2.1
   have fy:=(gY hy'.1).2.2.2.1
   have:=ih [(yC (ws.take k),x.item),(ws[k].1,y.item)] (fun p hp=>by
    simp only[List.mem_cons,List.not_mem_nil,or_false] at hp
    rcases hp with rfl|rfl
    ·exact⟨fx,hx'.2.1,hx'.2.2⟩
    ·exact⟨fy,hy'.2.1,hy'.2.2⟩) (by show yC (ws.take k)+(ws[k].1+0)≤_; omega) ⟨_,List.getElem_mem hk',fun e=>by rw[e] at hy; cases hy⟩
   simp only[List.map_cons,List.map_nil] at this
   rwa [amH _ (fun t ht=>by
    simp only[List.mem_cons,List.not_mem_nil,or_false] at ht
    rcases ht with rfl|rfl
    ·exact fx
    ·exact fy),azD fx] at this
theorem anx (hS:agk prog M.qB) (hC:Wz prog M.nK) (NM:List S):∀ (n:Nat) (ws:List (Nat × Ty)),okW NM n ws→yC ws≤4294967296 →
 Ret prog M.jF [.vec 9 false ((ws.map (·.2)).map eU)] (.agg (cT (Ay (ws.map (·.2))))):=by
 intro n
 induction n with
 | zero =>
   intro ws hw hB
   refine ana hS hC NM 0 ws (fun p hp=>⟨(hw p hp).1,by have:=(hw p hp).2.1; omega,(hw p hp).2.2⟩) hB fun ws' _ _ ⟨p,hp,hne⟩=>?_
   exact absurd (qy.1 (hw p hp).2.1).1 hne
 | succ n ih =>
   intro ws hw hB
   exact ana hS hC NM n ws hw hB fun ws' h1 h2 _=>ih ws' h1 h2
theorem NG (hS:agk prog M.qB) (hC:Wz prog M.nK) (NM:List S) (m:Nat) (l:List Ty) (hf:∀ t∈l,ak t=true) (hb:∀ t∈l,bdT NM m t) (hB:l.length*m≤4294967296) :
 Ret prog M.jF [.vec 9 false (l.map eU)] (.agg (cT (oh l))):=by
 have hn:∃ n,∀ t∈l,ay t≤n:=by
  clear hB hf hb
  induction l with
  | nil=>exact⟨0,by simp⟩
  | cons t l ih =>
    obtain⟨n,hn⟩:=ih
    exact⟨max n (ay t),fun x hx=>by
     rcases List.mem_cons.1 hx with rfl|hx
     ·omega
     ·have:=hn x hx; omega⟩
 obtain⟨n,hn⟩:=hn
 have e:(l.map fun t=>(m,t)).map (·.2)=l:=by simp[Function.comp_def]
 have e2:yC (l.map fun t=>(m,t))=l.length*m:=by
  unfold yC
  rw[List.map_map]
  clear e hB hf hb hn
  induction l with
  | nil=>simp
  | cons t l ih=>simp only[List.map_cons,List.sum_cons,ih,List.length_cons,Function.comp]; rw[Nat.add_mul]; omega
 have:=anx hS hC NM n (l.map fun t=>(m,t)) (fun p hp=>by
  obtain⟨t,ht,rfl⟩:=List.mem_map.1 hp
  exact⟨hf t ht,hn t ht,hb t ht⟩) (by omega)
 rw[e] at this
 rwa [amH l hf] at this
end Go.Proofs.YtfilonnphgnplaaGreatDoor.Pv
namespace Go.Proofs.YtfilonnphgnplaaGreatDoor.Pv
open Go Go.Tidy
theorem ahc:agk prog M.qB :=
 ⟨by kernel_rfl,fun blk off cap ss w hH hblk hsz=>AnyM.slices_Sort_string Tryz.ay4 blk off cap ss w hH hblk hsz,fun p cap w=>AnyM.slices_Sort_string_none Tryz.ay4 p cap w⟩
theorem abf:Wz prog M.nK :=
 ⟨by kernel_rfl,fun blk off cap zs w hH hsz hcap=>AnyG.slices_Compact_string Tryz.azn blk off cap zs w hH hsz hcap,fun a cap w=>AnyG.slices_Compact_string_empty Tryz.azn a cap w⟩
end Go.Proofs.YtfilonnphgnplaaGreatDoor.Pv
set_option maxRecDepth 100000
namespace Go.Proofs.YtfilonnphgnplaaGreatDoor.Pv
open Go Go.Tidy
set_option maxHeartbeats 4000000 in
theorem akT (o:Ob) (ho:bf o=true) (hn:o.names.length≤34359738368):Ret prog M.OW [.agg (cO o)] (.agg (cO (jC o))):=by
 refine Ret.go ah azQ (by simp) fun hb w0 F0 hG=>?_
 obtain⟨o1,o2,o3,o4,o5,o6⟩:=dz ho
 have hR:jC o=xQ ((jD o).filter fun p=>p.2.2||!jm p.2.1 o.rest) o.rest:=rfl
 generalize jC o=R at *
 have hT:=ahQ o1 o2
 simp
 intro v1 v2 v3
 obtain⟨J,hJ⟩ : ∃ J:Nat→List (S × Ty × Bool)→Prop,J=fun k l=>l=((jD o).take k).filter fun p=>p.2.2||!jm p.2.1 o.rest:=⟨_,rfl⟩
 refine aU.xG ah [(1000003,1,1000),(2000003,9,1001),(3000003,1,1002)] rfl o.names.length (fun v k l=>⟨[(12,.int .i64 k),(11,.int .i64 o.names.length),(10,.vec 1 false (o.names.map encStr)),(3,.ptr (3,v3) 12 0 0),(2,.ptr (2,v2) 12 0 0),(1,.ptr (1,v1) 12 0 0)],
  [((3,v3),some ⟨12,[aom (.own (1000,v) 1 0 l.length false) (.own (1001,v) 9 0 l.length false) (.own (1002,v) 1 0 l.length false) o.rest],false,true⟩),((1000,v),some ⟨1,tN l,false,false⟩),((1001,v),some ⟨9,tF l,false,false⟩),((1002,v),some ⟨1,tM l,false,false⟩),((2,v2),some ⟨12,[M.z4],false,true⟩),((1,v1),some ⟨12,[cO o],false,true⟩)]⟩) J [] (by rw[hJ]; rfl) (by simp) fun v k l _ hk hj=>?_
 have hw:=wrap64 (n:=(k:Int)+1) (by omega) (by omega)
 have hj' : l=((jD o).take k).filter fun p=>p.2.2||!jm p.2.1 o.rest:=by rw[hJ] at hj; exact hj
 have hll:l.length≤k:=by
  rw[hj']; refine Nat.le_trans (List.length_filter_le _ _) ?_
  simp; omega
 by_cases g:k<o.names.length
 ·have g1:k<o.fields.length:=by omega
  have g2:k<o.must.length:=by omega
  have hs:=anp g g1 g2 (by omega)
  have hst:=afz (fun p:S × Ty × Bool=>p.2.2||!jm p.2.1 o.rest) (l:=jD o) (k:=k) (by omega)
  rw[hs,← hj'] at hst
  simp[g]
  refine bQ.go ah ?_
  cases e1:o.must[k]
  ·simp[g,g1,g2,e1]
   intros
   refine aH.ret (Xq _ _ (o5 _ (List.getElem_mem g1)) o4) ?_
   cases e2:jm o.fields[k] o.rest
   ·rw[if_pos (by simp[e2])] at hst
    simp[g,g1,g2,e1,e2,hw]
    exact fun _=>⟨by omega,fun _=>⟨by omega,fun _=>⟨by omega,l++[(o.names[k],o.fields[k],o.must[k])],by rw[hJ]; exact hst.symm,fun _=>by simp[e1]⟩⟩⟩
   ·rw[if_neg (by simp[e1,e2])] at hst
    simp[g,g1,g2,e1,e2,hw]
    exact⟨l,by rw[hJ]; exact hst.symm,fun _=>by simp⟩
  ·rw[if_pos (by simp[e1])] at hst
   simp[g,g1,g2,e1,hw]
   exact fun _=>⟨by omega,fun _=>⟨by omega,fun _=>⟨by omega,l++[(o.names[k],o.fields[k],o.must[k])],by rw[hJ]; exact hst.symm,fun _=>by simp[e1]⟩⟩⟩
 ·have e1:l=(jD o).filter fun p=>p.2.2||!jm p.2.1 o.rest:=by rw[hj',List.take_of_length_le (by omega)]
  rw[hR,← e1]
  simp[g,xQ]
set_option maxHeartbeats 4000000 in
theorem azp (h:Int) (N:Ty→Ty) (NM:List S) (B:Nat) (hN:abz M.jK h N NM B) (hNf:∀ t,ak t=true→ak (N t)=true) (h3:NM.length≤268435456) (hM:4*(NM.length+1)≤B) (o:Ob) (ho:bf o=true) (hbo:bdO NM 4 o) :
 Ret prog M.Ql [.agg (cO o),.int .i64 h] (.agg (cO (zQ N o))):=by
 refine Ret.go ah aug (by simp) fun hb w0 F0 hG=>?_
 have hnl:o.names.length≤NM.length:=zn (kG ho) hbo.1
 have c0:=akT o ho (by omega)
 have hs:=UQ ho
 have hsb:=afc hbo
 have hT:zQ N o=if (jC o).names.length≤12 then jC o else jC (.mk ((jC o).names.take 12) ((jC o).fields.take 12) ((jC o).must.take 12) (N (oh ((jC o).rest::(jC o).fields.drop 12)))):=rfl
 generalize zQ N o=R at *
 generalize jC o=p at *
 obtain⟨p1,p2,p3,p4,p5,p6⟩:=dz hs
 have hpl:p.names.length≤NM.length:=zn (kG hs) hsb.1
 simp
 intro v1 v2
 refine aj.ret c0 ?_
 by_cases h12:p.names.length≤12
 ·have h12' : (p.names.length:Int)≤12:=by omega
  rw[if_pos h12] at hT
  simp[h12',hT]
 ·have h12' : ¬ (p.names.length:Int)≤12:=by omega
  rw[if_neg h12] at hT
  have hfl:∀ t∈p.rest::p.fields.drop 12,ak t=true:=fun t ht=>by
   rcases List.mem_cons.1 ht with rfl|ht
   ·exact p4
   ·exact p5 t (List.mem_of_mem_drop ht)
  have hbl:∀ t∈p.rest::p.fields.drop 12,bdT NM 4 t:=fun t ht=>by
   rcases List.mem_cons.1 ht with rfl|ht
   ·exact hsb.2.2
   ·exact hsb.2.1 t (List.mem_of_mem_drop ht)
  have hll:(p.rest::p.fields.drop 12).length≤NM.length+1:=by simp; omega
  have cTg:=NG ahc abf NM 4 _ hfl hbl (by omega)
  have hfr:=LG hfl
  have hbr:bdT NM (4*(NM.length+1)) (oh (p.rest::p.fields.drop 12)):=Ak (by omega) _ (adG hbl)
  generalize oh (p.rest::p.fields.drop 12)=r at *
  have c2:=hN r _ hfr hbr hM
  have hmk:Ob.mk (p.names.take 12) (p.fields.take 12) (p.must.take 12) (N r)=xQ ((jD p).take 12) (N r):=by
   obtain⟨t1,t2,t3⟩:=adq p1 p2
   unfold xQ
   rw[List.map_take,List.map_take,List.map_take,t1,t2,t3]
  have hfo:bf (xQ ((jD p).take 12) (N r))=true:=abe hs (List.take_sublist _ _) (hNf r hfr)
  rw[← hmk] at hfo
  have c3:=akT _ hfo (by simp; omega)
  rw[← hT] at c3
  generalize N r=z at *
  have q1:(12:Int)≤p.fields.length:=by omega
  have q2:(12:Int)≤p.names.length:=by omega
  have q3:(12:Int)≤p.must.length:=by omega
  have q4:12≤p.fields.length:=by omega
  have q5:p.fields.length≤68719476735+12:=by omega
  have q6:1+(p.fields.length-12)≤68719476736:=by omega
  have et:List.take (p.fields.length-12) (List.drop 12 (List.map eU p.fields))=(p.fields.drop 12).map eU:=by
   rw[List.take_of_length_le (by simp),List.map_drop]
  have c4:Ret prog M.OW [.agg [.vec 1 false ((p.names.map encStr).take 12),.vec 9 false ((p.fields.map eU).take 12),.vec 1 false ((p.must.map jH).take 12),.bool z.all,.bool z.null,.bool z.fls,.bool z.tru,.vec 2 false (z.nums.map dH),.bool z.any,.vec 1 false (z.texts.map encStr),.vec 11 false (z.arrays.map dh),.vec 12 false (z.objects.map av)]] (.agg (cO R)):=by
   rw[← List.map_take,← List.map_take,← List.map_take]
   exact c3
  have c5:Ret prog M.jF [.vec 9 false (eU p.rest::(p.fields.drop 12).map eU)] (.agg (cT r)):=cTg
  have q7:p.fields.length-12+1=1+(p.fields.length-12):=by omega
  have et2:List.take (1+(p.fields.length-12)) (eU p.rest::(p.fields.drop 12).map eU)=eU p.rest::(p.fields.drop 12).map eU:=List.take_of_length_le (by simp; omega)
  simp[h12',q1,q2,q3,q4,q6,et]
  intro v15
  refine aH.ret (r:=.agg (cT r)) (by rw[← et2] at c5; simpa[q6,et] using c5) ?_
  simp
  refine⟨by omega,q2,q1,q3,?_⟩
  refine aj.ret (r:=.agg (cT z)) (by simp; exact c2) ?_
  simp
  refine aj.ret (r:=.agg (cO R)) (by simp; exact c4) ?_
  simp
set_option maxHeartbeats 4000000 in
theorem am2 (h:Int) (N:Ty→Ty) (NM:List S) (B m:Nat) (hN:abz M.jK h N NM B) (hNf:∀ t,ak t=true→ak (N t)=true) (hNn:∀ t,ak t=true→never (N t)=never t) (hNb:∀ t m,bdT NM m t→bdT NM 4 (N t)) (h3:NM.length≤268435456) (hM:4*(NM.length+1)≤B) (o:Ob) (ho:bf o=true) (hbo:bdO NM m o) (hm:m≤B) :
 Ret prog M.rz [.agg (cO o),.int .i64 h] (.agg (cO (gU N o))):=by
 refine Ret.go ah ayO (by simp) fun hb w0 F0 hG=>?_
 obtain⟨o1,o2,o3,o4,o5,o6⟩:=dz ho
 have hT:gU N o=zQ N (.mk o.names (o.fields.map N) o.must (N o.rest)):=rfl
 have hfo:bf (.mk o.names (o.fields.map N) o.must (N o.rest))=true:=by
  refine JQ (by simp[o1]) o2 o3 (hNf _ o4) (fun f hf=>?_) (fun p hp hm=>?_)
  ·obtain⟨t,ht,rfl⟩:=List.mem_map.1 hf
   exact hNf t (o5 t ht)
  ·simp only[Ob.qL,Ob.VW] at hp
   have:(o.fields.map N).zip o.must=(o.fields.zip o.must).map fun p=>(N p.1,p.2):=by
    rw[← List.map_id o.must,List.zip_map]; simp
   rw[this] at hp
   obtain⟨x,hx,rfl⟩:=List.mem_map.1 hp
   rw[hNn _ (o5 _ (List.of_mem_zip hx).1)]
   exact o6 x hx hm
 have hbo' : bdO NM 4 (.mk o.names (o.fields.map N) o.must (N o.rest)):=⟨hbo.1,fun f hf=>by
  obtain⟨t,ht,rfl⟩:=List.mem_map.1 hf
  exact hNb t m (hbo.2.1 t ht),hNb _ m hbo.2.2⟩
 have c1:=azp h N NM B hN hNf h3 hM _ hfo hbo'
 rw[← hT] at c1
 generalize gU N o=R at *
 have hnl:o.names.length≤NM.length:=zn (kG ho) hbo.1
 have c2:=hN o.rest m o4 hbo.2.2 hm
 simp
 intro v1 v2 v5
 obtain⟨J,hJ⟩ : ∃ J:Nat→List Ty→Prop,J=fun k fs=>fs=(o.fields.take k).map N:=⟨_,rfl⟩
 refine aU.xG ah [(5,9,1001)] rfl o.fields.length (fun v k (fs:List Ty)=>⟨[(12,.int .i64 k),(11,.int .i64 o.fields.length),(10,.vec 9 false (o.fields.map eU)),(5,.own (1001,v) 9 0 fs.length false),(4,.ptr (4,v2) 12 0 0),(2,.ptr (2,v1) 12 0 0),(1,.int .i64 h)],
  [((1001,v),some ⟨9,fs.map eU,false,false⟩),((4,v2),some ⟨12,[M.z4],false,true⟩),((2,v1),some ⟨12,[cO o],false,true⟩)]⟩) J [] (by rw[hJ]; rfl) (by simp) fun v k fs _ hk hj=>?_
 have hw:=wrap64 (n:=(k:Int)+1) (by omega) (by omega)
 have hj' : fs=(o.fields.take k).map N:=by rw[hJ] at hj; exact hj
 have hll:fs.length=k:=by rw[hj']; simp; omega
 by_cases g:k<o.fields.length
 ·have hst:=qd N g
  rw[← hj'] at hst
  have c3:=hN o.fields[k] m (o5 _ (List.getElem_mem g)) (hbo.2.1 _ (List.getElem_mem g)) hm
  simp[g]
  intros
  refine aj.ret (r:=.agg (cT (N o.fields[k]))) (by simp; exact c3) ?_
  simp[hw,g]
  exact fun _=>⟨by omega,fs++[N o.fields[k]],by rw[hJ]; exact hst.symm,fun _=>by simp⟩
 ·have e1:fs=o.fields.map N:=by rw[hj',List.take_of_length_le (by omega)]
  rw[← e1] at c1
  generalize N o.rest=r at *
  have c4:Ret prog M.Ql [.agg [.vec 1 false (o.names.map encStr),.vec 9 false (fs.map eU),.vec 1 false (o.must.map jH),.bool r.all,.bool r.null,.bool r.fls,.bool r.tru,.vec 2 false (r.nums.map dH),.bool r.any,.vec 1 false (r.texts.map encStr),.vec 11 false (r.arrays.map dh),.vec 12 false (r.objects.map av)],.int .i64 h] (.agg (cO R)):=c1
  simp[g]
  intros
  refine aH.ret c2 ?_
  simp
  refine aH.ret (r:=.agg (cO R)) (by simpa using c4) ?_
  simp
end Go.Proofs.YtfilonnphgnplaaGreatDoor.Pv
set_option maxRecDepth 100000
namespace Go.Proofs.YtfilonnphgnplaaGreatDoor.Pv
open Go Go.Tidy
set_option maxHeartbeats 4000000 in
theorem auS (t:Ty) (ht:ak t=true):Ret prog M.aam [.agg (cT t)] (.bool (jm t laidAll)):=by
 have cs:=Xq t laidAll ht afU.1
 refine Ret.go ah atW (by simp) fun hb w0 F0 hG=>?_
 simp
 intros
 refine aH.ret oz ?_
 simp
 refine aH.ret oz ?_
 simp
 refine aH.ret (r:=.bool (jm t laidAll)) (by simp; exact cs) ?_
 simp
section
variable {w0:World} {F0:Nat→Prop} {hG:GOk prog w0 F0}
set_option maxHeartbeats 4000000 in
theorem aGA (h:Int) (t:Ty) (v2 v4 v5:Nat) (any:Bool) (texts:List S) (az:List Arr) (os:List Ob) (wf:Ob→Ob) (hh:IntKind.i64.wrap (h-1)=h-1) (hf:ak (.mk false t.null t.fls t.tru t.nums any texts az os)=true) (hl:t.objects.length≤34359738368)
 (hW:∀ o∈t.objects,Ret prog M.rz [.agg (cO o),.int .i64 (h-1)] (.agg (cO (wf o))))
 (hO:Ret prog M.wz [.vec 12 false ((t.objects.map wf).map av),.int .i64 (h-1)] (.vec 12 false (os.map av))) :
 ∀ st:St,(∀ v,LS (lU [(9000005,12,1008)] v st) ⟨[(59,.int .i64 0),(58,.int .i64 t.objects.length),(57,.vec 12 false (t.objects.map av)),(5,.ptr (5,v5) 9 0 0),(4,.ptr (4,v4) 9 0 0),(2,.ptr (2,v2) 9 0 0),(1,.int .i64 h)],[((5,v5),some ⟨9,[acw t any (.vec 1 false (texts.map encStr)) (.vec 11 false (az.map dh)) (.own (1008,v) 12 0 0 false)],false,true⟩),((1008,v),some ⟨12,[],false,false⟩),((4,v4),some ⟨9,[M.z1],false,true⟩),((2,v2),some ⟨9,[cT t],false,true⟩)]⟩) →
 aU ⟨prog,w0,F0,83,[],0,hG⟩ (.loop M.afi) st [.bk 2,.sq M.ae8]
  (uw M.Qm (.agg (cT (if jm (.mk false t.null t.fls t.tru t.nums any texts az os) laidAll then dn else .mk false t.null t.fls t.tru t.nums any texts az os)))):=by
 have cs:=auS (.mk false t.null t.fls t.tru t.nums any texts az os) hf
 obtain⟨R,hR⟩ : ∃ R,R=(if jm (.mk false t.null t.fls t.tru t.nums any texts az os) laidAll then dn else Ty.mk false t.null t.fls t.tru t.nums any texts az os):=⟨_,rfl⟩
 rw[← hR]
 intro st hst0
 obtain⟨J,hJ⟩ : ∃ J:Nat→List Ob→Prop,J=fun k acc=>acc=(t.objects.take k).map wf:=⟨_,rfl⟩
 refine aU.xG ah [(9000005,12,1008)] rfl t.objects.length (fun v k (acc:List Ob)=>⟨[(59,.int .i64 k),(58,.int .i64 t.objects.length),(57,.vec 12 false (t.objects.map av)),(5,.ptr (5,v5) 9 0 0),(4,.ptr (4,v4) 9 0 0),(2,.ptr (2,v2) 9 0 0),(1,.int .i64 h)],[((5,v5),some ⟨9,[acw t any (.vec 1 false (texts.map encStr)) (.vec 11 false (az.map dh)) (.own (1008,v) 12 0 acc.length false)],false,true⟩),((1008,v),some ⟨12,acc.map av,false,false⟩),((4,v4),some ⟨9,[M.z1],false,true⟩),((2,v2),some ⟨9,[cT t],false,true⟩)]⟩) J [] (by rw[hJ]; rfl) (by simpa using hst0) fun v k acc _ hk hj=>?_
 have hw:=wrap64 (n:=(k:Int)+1) (by omega) (by omega)
 have hj' : acc=(t.objects.take k).map wf:=by rw[hJ] at hj; exact hj
 have hal:acc.length=k:=by rw[hj']; simp; omega
 by_cases g:k<t.objects.length
 ·have hst:=qd wf g
  rw[← hj'] at hst
  simp[g,hh]
  intros
  refine aH.ret (hW _ (List.getElem_mem g)) ?_
  simp[g,hw]
  exact⟨by omega,acc++[wf t.objects[k]],by rw[hJ]; exact hst.symm,fun _=>by simp⟩
 ·have e1:acc=t.objects.map wf:=by rw[hj',List.take_of_length_le (by omega)]
  rw[← e1] at hO
  simp[g,hh]
  refine aj.ret (r:=.vec 12 false (os.map av)) (by simpa using hO) ?_
  simp
  refine aj.ret (r:=.bool (jm (.mk false t.null t.fls t.tru t.nums any texts az os) laidAll)) (by simp; exact cs) ?_
  cases hs:jm (.mk false t.null t.fls t.tru t.nums any texts az os) laidAll<;>rw[hs] at hR
  ·simp[hR]
  ·simp
   refine aj.ret oz ?_
   simp[hR,dn]
set_option maxHeartbeats 4000000 in
theorem aGk (h:Int) (t:Ty) (v2 v4 v5:Nat) (any:Bool) (texts:List S) (os:List Ob) (wf:Ob→Ob) (n:Ty→Ty) (hh:IntKind.i64.wrap (h-1)=h-1) (hf:ak (.mk false t.null t.fls t.tru t.nums any texts (t.arrays.map fun a=>.mk (n a.item) a.min a.max) os)=true) (hl:t.objects.length≤34359738368)
 (ha:t.arrays.length≤1) (hA:∀ a∈t.arrays,Ret prog M.jK [.agg (cT a.item),.int .i64 (h-1)] (.agg (cT (n a.item))))
 (hW:∀ o∈t.objects,Ret prog M.rz [.agg (cO o),.int .i64 (h-1)] (.agg (cO (wf o))))
 (hO:Ret prog M.wz [.vec 12 false ((t.objects.map wf).map av),.int .i64 (h-1)] (.vec 12 false (os.map av))) (arr0 obj0:PV) :
 XC ⟨prog,w0,F0,83,[],0,hG⟩ M.Xu ⟨[(5,.ptr (5,v5) 9 0 0),(4,.ptr (4,v4) 9 0 0),(2,.ptr (2,v2) 9 0 0),(1,.int .i64 h)],[((5,v5),some ⟨9,[acw t any (.vec 1 false (texts.map encStr)) arr0 obj0],false,true⟩),((4,v4),some ⟨9,[M.z1],false,true⟩),((2,v2),some ⟨9,[cT t],false,true⟩)]⟩ []
  (uw M.Qm (.agg (cT (if jm (.mk false t.null t.fls t.tru t.nums any texts (t.arrays.map fun a=>.mk (n a.item) a.min a.max) os) laidAll then dn else .mk false t.null t.fls t.tru t.nums any texts (t.arrays.map fun a=>.mk (n a.item) a.min a.max) os)))):=by
 have fin:=aGA (w0:=w0) (F0:=F0) (hG:=hG) h t v2 v4 v5 any texts _ os wf hh hf hl hW hO
 generalize hAs:(t.arrays.map fun a=>Arr.mk (n a.item) a.min a.max)=az at *
 generalize (if jm (.mk false t.null t.fls t.tru t.nums any texts az os) laidAll then dn else Ty.mk false t.null t.fls t.tru t.nums any texts az os)=R at *
 simp
 obtain⟨J,hJ⟩ : ∃ J:Nat→List Arr→Prop,J=fun k acc=>acc=(t.arrays.take k).map fun a=>.mk (n a.item) a.min a.max:=⟨_,rfl⟩
 refine aU.xG ah [(8000005,11,1007)] rfl t.arrays.length (fun v k (acc:List Arr)=>⟨[(39,.int .i64 k),(38,.int .i64 t.arrays.length),(37,.vec 11 false (t.arrays.map dh)),(5,.ptr (5,v5) 9 0 0),(4,.ptr (4,v4) 9 0 0),(2,.ptr (2,v2) 9 0 0),(1,.int .i64 h)],[((5,v5),some ⟨9,[acw t any (.vec 1 false (texts.map encStr)) (.own (1007,v) 11 0 acc.length false) (.vec 12 true [])],false,true⟩),((1007,v),some ⟨11,acc.map dh,false,false⟩),((4,v4),some ⟨9,[M.z1],false,true⟩),((2,v2),some ⟨9,[cT t],false,true⟩)]⟩) J [] (by rw[hJ]; rfl) (by simp) fun v k acc _ hk hj=>?_
 have hw:=wrap64 (n:=(k:Int)+1) (by omega) (by omega)
 have hj' : acc=(t.arrays.take k).map fun a=>.mk (n a.item) a.min a.max:=by rw[hJ] at hj; exact hj
 have hal:acc.length=k:=by rw[hj']; simp; omega
 by_cases g:k<t.arrays.length
 ·have hst:=qd (fun a:Arr=>Arr.mk (n a.item) a.min a.max) g
  rw[← hj'] at hst
  simp[g,hh]
  intros
  refine aj.ret (hA _ (List.getElem_mem g)) ?_
  simp[g,hw]
  exact fun _=>⟨by omega,acc++[.mk (n t.arrays[k].item) t.arrays[k].min t.arrays[k].max],by rw[hJ]; exact hst.symm,fun _=>by simp; exact aK _ _⟩
 ·have e1:acc=az:=by rw[hj',List.take_of_length_le (by omega),hAs]
  simp[g]
  exact fin _ fun v=>by simp[e1]
theorem aiF (h:Int) (t:Ty) (hz:t.all=true∨(h=0∧(t.arrays≠[]∨t.objects≠[]))):Ret prog M.jK [.agg (cT t),.int .i64 h] (.agg (cT dn)):=by
 refine Ret.go ah aiE (by simp) fun hb w0 F0 hG=>?_
 simp only[fu,gQ,List.length_map,LIM,and_true] at hb
 cases e0:t.all
 ·obtain⟨h1,h2⟩ : h=0∧(t.arrays≠[]∨t.objects≠[]):=by simpa[e0] using hz
  have hl:0<(t.arrays.length:Int)+t.objects.length:=by
   rcases h2 with h2|h2
   ·have:=List.length_pos_iff.2 h2; omega
   ·have:=List.length_pos_iff.2 h2; omega
  have w:=wrap64 (n:=(t.arrays.length:Int)+t.objects.length) (by omega) (by omega)
  simp[e0,h1,hl,w]
  intros
  refine aj.ret oz ?_
  simp[dn]
 ·simp[e0]
  intros
  refine aj.ret oz ?_
  simp[dn]
set_option maxHeartbeats 4000000 in
theorem ajU (h:Int) (t:Ty) (os:List Ob) (wf:Ob→Ob) (n:Ty→Ty) (h1 : -9223372036854775807≤h) (h2:h≤9223372036854775807) (e0:t.all=false) (e1:h=0→t.arrays=[]∧t.objects=[])
 (hf:ak (.mk false t.null t.fls t.tru t.nums (t.any||decide (16<t.texts.length)) (if 16<t.texts.length then [] else t.texts) (t.arrays.map fun a=>.mk (n a.item) a.min a.max) os)=true) (hl:t.objects.length≤34359738368) (ha:t.arrays.length≤1)
 (hA:∀ a∈t.arrays,Ret prog M.jK [.agg (cT a.item),.int .i64 (h-1)] (.agg (cT (n a.item))))
 (hW:∀ o∈t.objects,Ret prog M.rz [.agg (cO o),.int .i64 (h-1)] (.agg (cO (wf o))))
 (hO:Ret prog M.wz [.vec 12 false ((t.objects.map wf).map av),.int .i64 (h-1)] (.vec 12 false (os.map av))) :
 Ret prog M.jK [.agg (cT t),.int .i64 h] (.agg (cT (QY t (t.arrays.map fun a=>.mk (n a.item) a.min a.max) os))):=by
 refine Ret.go ah aiE (by simp) fun hb w0 F0 hG=>?_
 have hh:=wrap64 (n:=h-1) (by omega) (by omega)
 have fin:=fun v2 v4 v5=>aGk (w0:=w0) (F0:=F0) (hG:=hG) h t v2 v4 v5 _ _ os wf n hh hf hl ha hA hW hO (.vec 11 false (t.arrays.map dh)) (.vec 12 false (t.objects.map av))
 have hR:QY t (t.arrays.map fun a=>.mk (n a.item) a.min a.max) os=(if jm (.mk false t.null t.fls t.tru t.nums (t.any||decide (16<t.texts.length)) (if 16<t.texts.length then [] else t.texts) (t.arrays.map fun a=>.mk (n a.item) a.min a.max) os) laidAll then dn else Ty.mk false t.null t.fls t.tru t.nums (t.any||decide (16<t.texts.length)) (if 16<t.texts.length then [] else t.texts) (t.arrays.map fun a=>.mk (n a.item) a.min a.max) os):=rfl
 rw[← hR] at fin
 generalize QY t (t.arrays.map fun a=>Arr.mk (n a.item) a.min a.max) os=R at *
 have key:∀ v2 v4 v5 (st:St),(∀ v,LS (lU [] v st) ⟨[(5,.ptr (5,v5) 9 0 0),(4,.ptr (4,v4) 9 0 0),(2,.ptr (2,v2) 9 0 0),(1,.int .i64 h)],[((5,v5),some ⟨9,[acw t t.any (.vec 1 false (t.texts.map encStr)) (.vec 11 false (t.arrays.map dh)) (.vec 12 false (t.objects.map av))],false,true⟩),((4,v4),some ⟨9,[M.z1],false,true⟩),((2,v2),some ⟨9,[cT t],false,true⟩)]⟩) →
  bQ ⟨prog,w0,F0,83,[],0,hG⟩ M.afh st [.sq M.Xu] (uw M.Qm (.agg (cT R))):=fun v2 v4 v5 st hst=>by
  refine bQ.anew [] rfl _ hst fun _ _=>?_
  refine bQ.ah6 ah [] rfl (fun _=>⟨[(5,.ptr (5,v5) 9 0 0),(4,.ptr (4,v4) 9 0 0),(2,.ptr (2,v2) 9 0 0),(1,.int .i64 h)],[((5,v5),some ⟨9,[acw t (t.any||decide (16<t.texts.length)) (.vec 1 false ((if 16<t.texts.length then [] else t.texts).map encStr)) (.vec 11 false (t.arrays.map dh)) (.vec 12 false (t.objects.map av))],false,true⟩),((4,v4),some ⟨9,[M.z1],false,true⟩),((2,v2),some ⟨9,[cT t],false,true⟩)]⟩) ?_ fun _ _=>by rw[ahI]; exact fin v2 v4 v5
  by_cases h16:16<t.texts.length
  ·have h16' : (16:Int)<t.texts.length:=by omega
   simp[h16,h16']
  ·have h16' : ¬ (16:Int)<t.texts.length:=by omega
   simp[h16,h16']
 by_cases hz:h=0
 ·obtain⟨z1,z2⟩:=e1 hz
  have w0':=wrap64 (n:=0) (by omega) (by omega)
  simp[e0,hz,z1,z2,w0']
  rw[hz] at key
  exact fun v2 v4 v5=>key v2 v4 v5 _ fun v=>by simp[z1,z2,e0]
 ·simp[e0,hz]
  exact fun v2 v4 v5=>key v2 v4 v5 _ fun v=>by simp[e0]
end
end Go.Proofs.YtfilonnphgnplaaGreatDoor.Pv
set_option maxRecDepth 100000
namespace Go.Proofs.YtfilonnphgnplaaGreatDoor.Pv
open Go Go.Tidy
def Pq (P:Ty→Nat) (n:Nat) (f:Ty):Nat:=if n≤200 then n+P f else n
def aex (P:Ty→Nat) (n:Nat) (o:Ob):Nat:=(o.fields++[o.rest]).foldl (Pq P) n
theorem ahh (P:Ty→Nat) (B:Nat):∀ (l:List Ty) (n:Nat),(∀ f∈l,P f≤B)→n≤200+B→l.foldl (Pq P) n≤200+B
 | [],n,_,h=>h
 | f::l,n,hl,h=>ahh P B l _ (fun x hx=>hl x (by simp[hx])) (by
     have:=hl f (by simp)
     unfold Pq; split<;>omega)
theorem aE8 (P:Ty→Nat) (B:Nat) (l:List Ob) (n:Nat) (hl:∀ o∈l,(∀ f∈o.fields,P f≤B)∧P o.rest≤B) (h:n≤200+B):l.foldl (aex P) n≤200+B:=by
 induction l generalizing n with
 | nil=>exact h
 | cons o l ih =>
   refine ih _ (fun x hx=>hl x (by simp[hx])) (ahh P B _ n (fun f hf=>?_) h)
   have:=hl o (by simp)
   rcases List.mem_append.1 hf with hf|hf
   ·exact this.1 f hf
   ·rw[List.mem_singleton.1 hf]; exact this.2
theorem ajJ {l:List Ty} {P:Ty→Nat} {n k:Nat} (hk:k<l.length):(l.take (k+1)).foldl (Pq P) n=Pq P ((l.take k).foldl (Pq P) n) l[k]:=by
 rw[List.take_add_one,List.getElem?_eq_getElem hk]
 simp only[Option.toList_some,List.foldl_append,List.foldl_cons,List.foldl_nil]
set_option maxHeartbeats 4000000 in
theorem amU (t:Ty) (P:Ty→Nat) (B:Nat) (hB:B≤1099511627776) (ha1:t.arrays.length≤1)
 (ha:∀ a∈t.arrays,Ret prog M.ou [.agg (cT a.item)] (.int .i64 (P a.item:Nat))∧P a.item≤B)
 (hr:∀ o∈t.objects,Ret prog M.ou [.agg (cT o.rest)] (.int .i64 (P o.rest:Nat))∧P o.rest≤B)
 (hf:∀ o∈t.objects,∀ x∈o.fields,Ret prog M.ou [.agg (cT x)] (.int .i64 (P x:Nat))∧P x≤B)
 (hlo:∀ o∈t.objects,o.fields.length≤34359738368) :
 Ret prog M.ou [.agg (cT t)] (.int .i64 (t.objects.foldl (aex P) (t.arrays.foldl (fun n a=>n+P a.item) 1):Nat)):=by
 refine Ret.go ah aAh (by simp) fun hb w0 F0 hG=>?_
 simp only[fu,gQ,List.length_map,LIM,and_true] at hb
 generalize hR:t.objects.foldl (aex P) (t.arrays.foldl (fun n a=>n+P a.item) 1)=R
 simp
 intro v
 obtain⟨J,hJ⟩ : ∃ J:Nat→Nat→Prop,J=fun k m=>m=(t.arrays.take k).foldl (fun n a=>n+P a.item) 1:=⟨_,rfl⟩
 refine aU.cnt ah t.arrays.length (fun (k m:Nat)=>⟨[(13,.int .i64 k),(12,.int .i64 t.arrays.length),(11,.vec 11 false (t.arrays.map dh)),(3,.int .i64 (m:Nat)),(1,.ptr (1,v) 9 0 0)],[((1,v),some ⟨9,[cT t],false,true⟩)]⟩) J 1 (by simp[hJ]) (by simp) fun k m hk hj=>?_
 have hw:=wrap64 (n:=(k:Int)+1) (by omega) (by omega)
 have hj' : m=(t.arrays.take k).foldl (fun n a=>n+P a.item) 1:=by rw[hJ] at hj; exact hj
 by_cases h1:k<t.arrays.length
 ·obtain rfl:k=0:=by omega
  have hm:m=1:=by simpa using hj'
  have h0:=ha t.arrays[0] (List.getElem_mem h1)
  have w2:=wrap64 (n:=(m:Int)+P t.arrays[0].item) (by omega) (by omega)
  simp[h1]
  intro v5
  refine aj.ret h0.1 ?_
  have k1:=wrap64 (n:=1) (by omega) (by omega)
  simp[hw,w2,h1,k1]
  exact⟨m+P t.arrays[0].item,by
   rw[hJ]
   show _=(t.arrays.take 1).foldl _ 1
   rw[List.take_add_one,List.getElem?_eq_getElem h1]
   simp[hm],by simp⟩
 ·have hm:m=t.arrays.foldl (fun n a=>n+P a.item) 1:=by rw[hj',List.take_of_length_le (by omega)]
  have hmB:m≤200+B:=by
   rw[hm]
   match hA:t.arrays with
   | []=>simp; omega
   | [a]=>have:=(ha a (by simp[hA])).2; simp; omega
   | a::b::r=>rw[hA] at ha1; simp at ha1
  rw[← hm] at hR
  simp[h1]
  clear hj hj' hJ J
  obtain⟨J,hJ⟩ : ∃ J:Nat→Nat→Prop,J=fun k n=>n=(t.objects.take k).foldl (aex P) m:=⟨_,rfl⟩
  refine aU.cnt ah t.objects.length (fun (k n:Nat)=>⟨[(26,.int .i64 k),(25,.int .i64 t.objects.length),(24,.vec 12 false (t.objects.map av)),(3,.int .i64 (n:Nat)),(1,.ptr (1,v) 9 0 0)],[((1,v),some ⟨9,[cT t],false,true⟩)]⟩) J m (by simp[hJ]) (by simp) fun i n hi hj=>?_
  have hw:=wrap64 (n:=(i:Int)+1) (by omega) (by omega)
  have hj' : n=(t.objects.take i).foldl (aex P) m:=by rw[hJ] at hj; exact hj
  by_cases h2:i<t.objects.length
  ·have hnB:n≤200+B:=by
      rw[hj']
      exact aE8 P B _ m (fun o ho=>⟨fun f hf'=>(hf o (List.mem_of_mem_take ho) f hf').2,(hr o (List.mem_of_mem_take ho)).2⟩) hmB
   have hst:(t.objects.take (i+1)).foldl (aex P) m=aex P n t.objects[i]:=by
    rw[List.take_add_one,List.getElem?_eq_getElem h2]
    simp only[Option.toList_some,List.foldl_append,List.foldl_cons,List.foldl_nil,hj']
   have hro:=hr _ (List.getElem_mem h2)
   have hfo:=hf _ (List.getElem_mem h2)
   have hlo':=hlo _ (List.getElem_mem h2)
   generalize ho:t.objects[i]=o at *
   have q0:o.fields.length≤68719476735:=by omega
   have hl2:(o.fields++[o.rest]).length=o.fields.length+1:=by simp
   have hall:∀ f∈o.fields++[o.rest],Ret prog M.ou [.agg (cT f)] (.int .i64 (P f:Nat))∧P f≤B:=fun f hf=>by
    rcases List.mem_append.1 hf with hf|hf
    ·exact hfo f hf
    ·rw[List.mem_singleton.1 hf]; exact hro
   have hoP:aex P n o=(o.fields++[o.rest]).foldl (Pq P) n:=rfl
   obtain⟨L,hL⟩ : ∃ L,L=o.fields++[o.rest]:=⟨_,rfl⟩
   have hLl:L.length=o.fields.length+1:=by rw[hL,hl2]
   obtain⟨J',hJ'⟩ : ∃ J:Nat→Nat→Prop,J=fun j p=>p=(L.take j).foldl (Pq P) n:=⟨_,rfl⟩
   have ne:o.fields≠[]→ah8 true (o.fields.map eU)=false:=fun h=>by cases hf:o.fields<;>simp[ah8] ; exact absurd hf h
   rcases Classical.em (o.fields=[]) with e|e
   ·simp[h2,q0,ho,e,ah8]
    intro v7 v42
    refine aU.xG ah [(42,9,1042)] rfl L.length (fun v' j (p:Nat)=>⟨[(44,.int .i64 j),(43,.int .i64 L.length),(42,.own (1042,v') 9 0 L.length false),(3,.int .i64 (p:Nat)),(26,.int .i64 i),(25,.int .i64 t.objects.length),(24,.vec 12 false (t.objects.map av)),(1,.ptr (1,v) 9 0 0)],[((1042,v'),some ⟨9,L.map eU,false,false⟩),((1,v),some ⟨9,[cT t],false,true⟩)]⟩) J' n (by rw[hJ']; rfl) (fun v'=>by simp[hL,e,aK]) fun v' j p _ hj2 hjj=>?_
    have hw':=wrap64 (n:=(j:Int)+1) (by omega) (by omega)
    have hjj' : p=(L.take j).foldl (Pq P) n:=by rw[hJ'] at hjj; exact hjj
    have hpB:p≤200+B:=by
     rw[hjj']
     exact ahh P B _ n (fun f hf=>(hall f (by rw[← hL]; exact List.mem_of_mem_take hf)).2) hnB
    by_cases h3:j<L.length
    ·have hc:=hall L[j] (by rw[← hL]; exact List.getElem_mem h3)
     have w2:=wrap64 (n:=(p:Int)+P L[j]) (by omega) (by omega)
     have hst2:=ajJ (P:=P) (n:=n) h3
     rw[← hjj'] at hst2
     simp[h3]
     intro v9
     refine bQ.go ah ?_
     by_cases h200:p≤200
     ·have h200' : (p:Int)≤200:=by omega
      simp[h200,h200']
      refine aj.ret hc.1 ?_
      simp[w2,hw',h3]
      exact⟨p+P L[j],by rw[hJ']; show _=_; rw[hst2]; simp[Pq,h200],by omega⟩
     ·have h200' : ¬ (p:Int)≤200:=by omega
      simp[h200,h200',hw',h3]
      exact⟨p,by rw[hJ']; show _=_; rw[hst2]; simp[Pq,h200],rfl⟩
    ·have hp:p=aex P n o:=by rw[hjj',List.take_of_length_le (by omega),hL,hoP]
     simp[h3,hw,h2]
     exact⟨p,by rw[hJ]; show _=_; rw[hst]; exact hp,rfl⟩
   ·simp[h2,q0,ho,ne e]
    intro v7 v42
    refine aU.xG ah [(42,9,1042)] rfl L.length (fun v' j (p:Nat)=>⟨[(44,.int .i64 j),(43,.int .i64 L.length),(42,.own (1042,v') 9 0 L.length false),(3,.int .i64 (p:Nat)),(26,.int .i64 i),(25,.int .i64 t.objects.length),(24,.vec 12 false (t.objects.map av)),(1,.ptr (1,v) 9 0 0)],[((1042,v'),some ⟨9,L.map eU,false,false⟩),((1,v),some ⟨9,[cT t],false,true⟩)]⟩) J' n (by rw[hJ']; rfl) (fun v'=>by simp[hL,e,aK]) fun v' j p _ hj2 hjj=>?_
    have hw':=wrap64 (n:=(j:Int)+1) (by omega) (by omega)
    have hjj' : p=(L.take j).foldl (Pq P) n:=by rw[hJ'] at hjj; exact hjj
    have hpB:p≤200+B:=by
     rw[hjj']
     exact ahh P B _ n (fun f hf=>(hall f (by rw[← hL]; exact List.mem_of_mem_take hf)).2) hnB
    by_cases h3:j<L.length
    ·have hc:=hall L[j] (by rw[← hL]; exact List.getElem_mem h3)
     have w2:=wrap64 (n:=(p:Int)+P L[j]) (by omega) (by omega)
     have hst2:=ajJ (P:=P) (n:=n) h3
     rw[← hjj'] at hst2
     simp[h3]
     intro v9
     refine bQ.go ah ?_
     by_cases h200:p≤200
     ·have h200' : (p:Int)≤200:=by omega
      simp[h200,h200']
      refine aj.ret hc.1 ?_
      simp[w2,hw',h3]
      exact⟨p+P L[j],by rw[hJ']; show _=_; rw[hst2]; simp[Pq,h200],by omega⟩
     ·have h200' : ¬ (p:Int)≤200:=by omega
      simp[h200,h200',hw',h3]
      exact⟨p,by rw[hJ']; show _=_; rw[hst2]; simp[Pq,h200],rfl⟩
    ·have hp:p=aex P n o:=by rw[hjj',List.take_of_length_le (by omega),hL,hoP]
     simp[h3,hw,h2]
     exact⟨p,by rw[hJ]; show _=_; rw[hst]; exact hp,rfl⟩
  ·have:n=R:=by rw[hj',List.take_of_length_le (by omega),hR]
   simp[h2,this]
end Go.Proofs.YtfilonnphgnplaaGreatDoor.Pv
set_option maxRecDepth 100000
namespace Go.Proofs.YtfilonnphgnplaaGreatDoor.Pv
open Go Go.Tidy
def JG (n e:Nat):Prop:=(n≤200→n=e)∧(200<n→200<e)
theorem aIK {P:Ty→Nat} {n e:Nat} {f:Ty} (h:JG n e) (hf:JG (P f) (iW f)):JG (Pq P n f) (e+iW f):=by
 obtain⟨h1,h2⟩:=h
 obtain⟨f1,f2⟩:=hf
 unfold Pq JG
 by_cases g:n≤200
 ·have:=h1 g
  simp only[g,if_true]
  by_cases g2:P f≤200
  ·have:=f1 g2; omega
  ·have:=f2 (by omega); omega
 ·have:=h2 (by omega)
  rw[if_neg g]
  exact⟨fun h=>absurd h g,fun _=>by omega⟩
theorem aqW {P:Ty→Nat}:∀ (l:List Ty) {n e:Nat},JG n e→(∀ f∈l,JG (P f) (iW f))→JG (l.foldl (Pq P) n) (e+lu l)
 | [],n,e,h,_=>by simpa[lu] using h
 | f::l,n,e,h,hl=>by
   have:=aqW l (aIK h (hl f (by simp))) fun x hx=>hl x (by simp[hx])
   have e2:e+iW f+lu l=e+lu (f::l):=by simp[lu]; omega
   rwa [e2] at this
theorem aEc (l:List Ty) (t:Ty):lu (l++[t])=lu l+iW t:=by
 induction l with
 | nil=>simp[lu]
 | cons a l ih=>simp only[List.cons_append,lu,ih]; omega
theorem apu {P:Ty→Nat}:∀ (l:List Ob) {n e:Nat},JG n e→(∀ o∈l,(∀ f∈o.fields,JG (P f) (iW f))∧JG (P o.rest) (iW o.rest))→JG (l.foldl (aex P) n) (e+ng l)
 | [],n,e,h,_=>by simpa[ng] using h
 | o::l,n,e,h,hl=>by
   have h0:=hl o (by simp)
   have h1:=aqW (P:=P) (o.fields++[o.rest]) h fun f hf=>by
    rcases List.mem_append.1 hf with hf|hf
    ·exact h0.1 f hf
    ·rw[List.mem_singleton.1 hf]; exact h0.2
   have:=apu l h1 fun x hx=>hl x (by simp[hx])
   obtain⟨ns,fs,ms,r⟩:=o
   simp only[Ob.qL,Ob.adF,aEc] at this
   have e2:e+(lu fs+iW r)+ng l=e+ng (.mk ns fs ms r::l):=by simp[ng]; omega
   rwa [e2] at this
theorem aJ8:∀ (n:Nat),n≤1073741824→∀ t:Ty,l6 t→ay t≤n→∃ p:Nat,Ret prog M.ou [.agg (cT t)] (.int .i64 (p:Nat))∧JG p (iW t)∧p≤201+200*n:=by
 intro n
 induction n with
 | zero =>
   intro _ t ht hh
   have h0:=qy.1 hh
   have:=amU t (fun _=>0) 0 (by omega) (by simp[h0.1]) (by simp[h0.1]) (by simp[h0.2]) (by simp[h0.2]) (by simp[h0.2])
   rw[h0.1,h0.2] at this
   exact⟨1,this,by rw[aqO hh]; exact⟨fun _=>rfl,fun h=>by omega⟩,by omega⟩
 | succ n ih =>
   intro hn t ht hh
   have hs:=qx.1 hh
   have hch:∀ x:Ty,∃ p:Nat,l6 x→ay x≤n→Ret prog M.ou [.agg (cT x)] (.int .i64 (p:Nat))∧JG p (iW x)∧p≤201+200*n:=fun x=>by
    by_cases hx:l6 x∧ay x≤n
    ·obtain⟨p,hp⟩:=ih (by omega) x hx.1 hx.2
     exact⟨p,fun _ _=>hp⟩
    ·exact⟨0,fun a b=>absurd ⟨a,b⟩ hx⟩
   obtain⟨P,hP⟩:=Classical.axiomOfChoice hch
   have fA:∀ a∈t.arrays,_:=fun a ha=>hP a.item (ht.item ha) (hs.1 a ha)
   have fR:∀ o∈t.objects,_:=fun o ho=>hP o.rest (ht.rest ho) (hs.2 o ho).1
   have fF:∀ o∈t.objects,∀ x∈o.fields,_:=fun o ho x hx=>hP x (ht.field ho hx) ((hs.2 o ho).2 x hx)
   have ha1:=(cu ht.1).2.2.2.2.2.1
   refine⟨_,amU t P (201+200*n) (by omega) ha1 (fun a ha=>⟨(fA a ha).1,(fA a ha).2.2⟩) (fun o ho=>⟨(fR o ho).1,(fR o ho).2.2⟩) (fun o ho x hx=>⟨(fF o ho x hx).1,(fF o ho x hx).2.2⟩) (fun o ho=>by have:=ht.names ho; omega),?_,?_⟩
   ·rw[ahG]
    have e:1+(kg t.arrays+ng t.objects)=(1+kg t.arrays)+ng t.objects:=by omega
    rw[e]
    refine apu _ ?_ fun o ho=>⟨fun f hf=>(fF o ho f hf).2.1,(fR o ho).2.1⟩
    match hA:t.arrays with
    | []=>simp[kg,JG]
    | [.mk x lo hi] =>
      have h1:=(fA (.mk x lo hi) (by simp[hA])).2.1
      simp only[Arr.item] at h1
      simp only[List.foldl_cons,List.foldl_nil,kg,Arr.item,JG] at h1 ⊢
      obtain⟨f1,f2⟩:=h1
      by_cases g2:P x≤200
      ·have:=f1 g2; omega
      ·have:=f2 (by omega); omega
    | a::b::r=>rw[hA] at ha1; simp at ha1
   ·have:=aE8 P (201+200*n) t.objects (t.arrays.foldl (fun n a=>n+P a.item) 1) (fun o ho=>⟨fun f hf=>(fF o ho f hf).2.2,(fR o ho).2.2⟩) (by
       match hA:t.arrays with
       | []=>simp; omega
       | [a]=>have:=(fA a (by simp[hA])).2.2; simp; omega
       | a::b::r=>rw[hA] at ha1; simp at ha1)
    omega
theorem aCN (t:Ty) (ht:l6 t) (hh:ay t≤1073741824):∃ p:Nat,Ret prog M.ou [.agg (cT t)] (.int .i64 (p:Nat))∧(200<p↔200<iW t):=by
 obtain⟨p,h1,⟨h2,h3⟩,h4⟩:=aJ8 (ay t) hh t ht (Nat.le_refl _)
 refine⟨p,h1,h3,fun h=>?_⟩
 by_cases g:p≤200
 ·have:=h2 g; omega
 ·omega
end Go.Proofs.YtfilonnphgnplaaGreatDoor.Pv
set_option maxRecDepth 100000
namespace Go.Proofs.YtfilonnphgnplaaGreatDoor.Pv
open Go Go.Tidy
set_option maxHeartbeats 4000000 in
theorem aF5 (t:Ty) (ht:ay t<1073741824) (hN:∀ h:Nat,h≤8→Ret prog M.jK [.agg (cT t),.int .i64 (h:Nat)] (.agg (cT (bG h t))))
 (hP:∀ h:Nat,h≤8→l6 (bG h t)∧ay (bG h t)≤1073741824) :
 Ret prog M.Dh [.agg (cT t)] (.agg (cT (oQ t))):=by
 have hH:=atg t (by omega)
 have hR:=aIc t
 obtain⟨mo,hmo⟩ : ∃ mo,mo=min (ay t) 8:=⟨_,rfl⟩
 have hm8:mo≤8:=by omega
 refine Ret.go ah aD5 (by simp) fun hb w0 F0 hG=>?_
 simp
 intro v1 v2 v3
 refine aH.ret (r:=.agg (cT (bG 0 t))) (by simpa using hN 0 (by omega)) ?_
 simp
 refine aH.ret hH ?_
 have hmm:(if (8:Int)<(ay t:Int) then (8:Int) else (ay t:Int))=(mo:Nat):=by split<;>omega
 simp[hmm]
 rw[← hmo] at hR
 generalize oQ t=R at *
 obtain⟨J,hJ⟩ : ∃ J:Nat→Ty→Prop,J=fun k b=>uH t (mo-k) (k+1) b=R:=⟨_,rfl⟩
 refine aU.cnt ah mo (fun (k:Nat) (b:Ty)=>⟨[(5,.int .i64 (k+1:Nat)),(4,.int .i64 mo),(3,.ptr (3,v3) 9 0 0),(2,.ptr (2,v2) 9 0 0),(1,.ptr (1,v1) 9 0 0)],[((3,v3),some ⟨9,[cT b],false,true⟩),((2,v2),some ⟨9,[M.z1],false,true⟩),((1,v1),some ⟨9,[cT t],false,true⟩)]⟩) J (bG 0 t) (by rw[hJ]; exact hR) (by simp) fun k b hk hj=>?_
 have hj' : uH t (mo-k) (k+1) b=R:=by rw[hJ] at hj; exact hj
 have hw:=wrap64 (n:=((k+1:Nat):Int)+1) (by omega) (by omega)
 obtain⟨i,hi⟩ : ∃ i,i=k+1:=⟨_,rfl⟩
 rw[← hi] at hw hj'
 show XC _ _ ⟨[(5,.int .i64 (k+1:Nat)),(4,.int .i64 mo),(3,.ptr (3,v3) 9 0 0),(2,.ptr (2,v2) 9 0 0),(1,.ptr (1,v1) 9 0 0)],[((3,v3),some ⟨9,[cT b],false,true⟩),((2,v2),some ⟨9,[M.z1],false,true⟩),((1,v1),some ⟨9,[cT t],false,true⟩)]⟩ _ _
 rw[← hi]
 by_cases g:k<mo
 ·have g1:i≤mo:=by omega
  obtain⟨m,hm⟩ : ∃ m,mo-k=m+1:=⟨mo-k-1,by omega⟩
  rw[hm,zX] at hj'
  have c1:=hN i (by omega)
  obtain⟨p,c2,hp⟩:=aCN (bG i t) (hP i (by omega)).1 (hP i (by omega)).2
  generalize bG i t=z at *
  simp[g1]
  refine aj.ret c1 ?_
  simp
  intro v6
  refine aj.ret c2 ?_
  by_cases h200:200<p
  ·have h200' : (200:Int)<p:=by omega
   rw[if_neg (by have:=hp.1 h200; omega)] at hj'
   simp[h200,h200',hj']
  ·have h200' : ¬ (200:Int)<p:=by omega
   rw[if_pos (by rcases Nat.lt_or_ge 200 (iW z) with h|h; exact absurd (hp.2 h) h200; exact h)] at hj'
   simp[h200,h200',hw]
   exact⟨g,z,by rw[hJ]; show uH _ _ _ _=_; rw[show mo-(k+1)=m by omega,show k+1+1=i+1 by omega]; exact hj',by omega,by simp⟩
 ·have g1:¬ i≤mo:=by omega
  rw[show mo-k=0 by omega] at hj'
  have hb' : b=R:=hj'
  simp[g1,hb']
end Go.Proofs.YtfilonnphgnplaaGreatDoor.Pv
set_option maxRecDepth 100000
namespace Go.Proofs.YtfilonnphgnplaaGreatDoor.Pv
open Go Go.Tidy
set_option maxHeartbeats 4000000 in
theorem aFO (t:Ty) (hF:ak t=true→Ret prog M.Dh [.agg (cT t)] (.agg (cT (oQ t)))) (hT:ak t=true→Ret prog M.jc [.agg (cT (oQ t))] (.agg (cT (oQ t)))) :
 Ret prog M.Lg [.agg (cT t)] (.tup [.agg (cT (if ak t then oQ t else d9)),.int .i64 (if ak t then 0 else 1)]):=by
 refine Ret.go ah aDe (by simp) fun hb w0 F0 hG=>?_
 have c1:=sU t
 simp
 intros
 refine aj.ret c1 ?_
 cases e:ak t
 ·simp[d9]
 ·have c2:=hF e
  have c3:=hT e
  generalize oQ t=z at *
  simp
  refine aj.ret c2 ?_
  simp
  refine aj.ret c3 ?_
  simp
set_option maxHeartbeats 4000000 in
theorem aI8 (t:Ty) (hF:ak t=true→Ret prog M.Dh [.agg (cT t)] (.agg (cT (oQ t)))) (hz:ak t=true→ak (oQ t)=true) :
 Ret prog M.IG [.agg (cT t)] (.bool (ak t&&jm t (oQ t))):=by
 refine Ret.go ah aH7 (by simp) fun hb w0 F0 hG=>?_
 have c1:=sU t
 simp
 intros
 refine aH.ret c1 ?_
 cases e:ak t
 ·simp
 ·have c2:=hF e
  have c3:=Xq t (oQ t) e (hz e)
  generalize oQ t=z at *
  simp
  refine aH.ret c2 ?_
  simp
  refine aH.ret c3 ?_
  simp
set_option maxHeartbeats 4000000 in
theorem aHJ (a b:Ty) (NM:List S) (m:Nat) (hm:2*m≤4294967296) (hba:bdT NM m a) (hbb:bdT NM m b) (hT:ak a=true→ak b=true→Ret prog M.jc [.agg (cT (jO a b))] (.agg (cT (jO a b)))) :
 Ret prog M.Qh [.agg (cT a),.agg (cT b)] (.tup [.agg (cT (if ak a&&ak b then jO a b else d9)),.int .i64 (if ak a&&ak b then 0 else 1)]):=by
 have c1:=sU a
 have c2:=sU b
 refine Ret.go ah aG2 (by simp) fun hb w0 F0 hG=>?_
 simp
 intros
 refine aj.ret c1 ?_
 cases e1:ak a
 ·simp[d9]
 ·simp
  refine aj.ret c2 ?_
  cases e2:ak b
  ·simp[d9]
  ·have c3:=NG ahc abf NM m [a,b] (by simp[e1,e2]) (by simp[hba,hbb]) (by simp; omega)
   rw[azD e1] at c3
   have c4:=hT e1 e2
   generalize jO a b=z at *
   simp
   intros
   refine aj.ret (r:=.agg (cT z)) (by simpa using c3) ?_
   simp
   refine aj.ret c4 ?_
   simp
end Go.Proofs.YtfilonnphgnplaaGreatDoor.Pv

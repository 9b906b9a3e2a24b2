/- Part 6. -/
import Derived.Test.YtfilonnphgnplaaGreatDoorA5
import Derived.Sort.Grow
import Derived.Sort.EncStr
import Derived.Lib.SlicesCompact
import Derived.ScopeJumps
import Derived.Maps.Own
import Derived.Maps.Ext
import Derived.StringKeys
import Derived.Sort.KeysCollected
import GoSem.Op.String
set_option linter.unusedSimpArgs false
set_option linter.unusedVariables false
namespace Go.Proofs.YtfilonnphgnplaaGreatDoor.Pv
open Go Go.RowKit
section
variable {E:Env} {h:List (Key × Option HE)} {c:Ctx} {w:World}
theorem dw.rows (hg:dw E h c w) {g:Key} {e:HE} {ad:Addr} (he:hk g h=some e) (had:c.β g=some ad) (hfz:e.fz=false) {w' : World} {xs' : List (List PV)}
 (hlen:xs'.length=e.xs.length) (hpos:0<e.xs.length) (hsize:w.heap.size≤w'.heap.size) (hother:∀ b,b<w.heap.size→b≠ad.block→w'.heap[b]? = w.heap[b]?)
 (hblk:∀ (cs:Array Value) (el:TypeId) (fr:Nat × Nat),w.heap[ad.block]? = some (.cells cs el fr)→∃ cs',w'.heap[ad.block]? = some (.cells cs' el fr)∧cs'.size=cs.size)
 (hbel:Bel E.w0.heap.size E.w0 w') (hrep:aJ w' (if e.bx then c else c.d) e.esz ad.block ad.off xs') :
 dw E ((g,some { e with xs:=xs' })::h) c w'∧dZ c.Fz w w':=by
 have hh:=hg.heap g e he
 obtain⟨ad',q1,q2,⟨ca,el,fr,q3,q4,q5⟩,q6,q7⟩:=hh.block hpos
 rw[had] at q1
 obtain rfl:=Option.some.inj q1
 have hnF:¬ c.Fz ad.block:=fun hf=>by rw[q7.1 hf] at hfz; cases hfz
 have hm:dZ c.Fz w w':=by
  refine⟨hsize,fun b hb=>hother b (hg.fz b hb).1 fun e=>hnF (e ▸ hb),fun b cs el fr hb=>?_⟩
  by_cases e:b=ad.block
  ·subst e
   obtain⟨cs',h1,h2⟩:=hblk cs el fr hb
   exact⟨cs',fr,h1,h2⟩
  ·exact⟨cs,fr,by rw[hother b (Array.getElem?_eq_some_iff.1 hb).1 e]; exact hb,rfl⟩
 refine⟨⟨?_,?_,?_,?_,hg.le,hg.bnd,hbel⟩,hm⟩
 ·intro k' e' he'
  rw[gq] at he'
  split at he'
  ·rename_i e1
   subst e1
   simp only[Option.some.injEq] at he'
   subst he'
   refine⟨hh.1,hh.2.1,?_⟩
   rw[had]
   obtain⟨ca',c1,c2⟩:=hblk ca el fr q3
   exact⟨q2,⟨ca',el,fr,c1,by rw[c2,hlen]; exact q4,fun o ho=>q5 o (by omega)⟩,hrep,q7⟩
  ·rename_i hne
   exact (hg.heap k' e' he').mono hm (Ctx.Le.refl c) (fun _ _=>Iff.rfl) (fun ad' had'=>hother _ (hg.fresh k' e' ad' he' had').2 (hg.apart k' g e' e ad' ad he' he had' had hne))
 ·intro k' e' ad' he' had'
  rw[gq] at he'
  split at he'
  ·rename_i e1
   subst e1
   have:=hg.fresh _ e ad' he had'
   exact⟨this.1,Nat.lt_of_lt_of_le this.2 hsize⟩
  ·have:=hg.fresh k' e' ad' he' had'
   exact⟨this.1,Nat.lt_of_lt_of_le this.2 hsize⟩
 ·intro k1 k2 e1 e2 a1 a2 he1 he2 ha1 ha2 hne
  rw[gq] at he1 he2
  split at he1
  ·rename_i x1
   subst x1
   rw[if_neg (fun x=>hne x.symm)] at he2
   exact hg.apart _ _ e e2 a1 a2 he he2 ha1 ha2 hne
  ·split at he2
   ·rename_i x2
    subst x2
    exact hg.apart _ _ e1 e a1 a2 he1 he ha1 ha2 hne
   ·exact hg.apart _ _ e1 e2 a1 a2 he1 he2 ha1 ha2 hne
 ·intro b hb
  have:=hg.fz b hb
  exact⟨Nat.lt_of_lt_of_le this.1 hsize,this.2⟩
end
def agk (P:Program) (f:FuncId):Prop:=callable P f=true ∧
 (∀ (blk off cap:Nat) (ss:List (List UInt8)) (w:World),Go.Sort.Holds Go.Proofs.encStr w blk off ss.toArray→blk<w.heap.size→ss.length<4611686018427387904 →
  Calls P f #[.slice (some ⟨blk,off,none⟩) ss.length cap] w fun e w'=>e=.returned (.tuple #[])∧∃ n os,w'=Go.Sort.grow (Go.Sort.putRow Go.Proofs.encStr (Go.Sort.ahead w n) blk off (ss.mergeSort fun x y=>decide (x≤y)).toArray) os) ∧
 (∀ (p:Option Addr) (cap:Nat) (w:World),Calls P f #[.slice p 0 cap] w fun e w'=>e=.returned (.tuple #[])∧w'=w)
def Jd (s:ByteArray):List PV:=[.str s]
def yt (l:List ByteArray):List ByteArray:=((l.map fun s=>s.data.toList).mergeSort fun x y=>decide (x≤y)).map fun x=>⟨x.toArray⟩
theorem aoN (l:List ByteArray):(yt l).Perm l:=by
 unfold yt
 refine ((List.mergeSort_perm _ _).map _).trans ?_
 rw[List.map_map]
 have:((fun x:List UInt8=>(⟨x.toArray⟩ : ByteArray))∘fun s:ByteArray=>s.data.toList)=id:=by
  funext s; simp
 rw[this,List.map_id]
theorem afa (l:List ByteArray):(yt l).length=l.length:=(aoN l).length_eq
theorem adi {w:World} {c:Ctx} {b:Nat}:∀ {o:Nat} {l:List ByteArray},aJ w c 1 b o (l.map Jd)→∀ j,j<l.length→∃ s,l[j]? = some s∧w.cell? ⟨b,o+j,none⟩=some (.string s)∧s.size≤LIM
 | _,[],_,j,hj=>absurd hj (by simp)
 | o,s::l,h,j,hj=>by
   obtain⟨h1,h2,h3⟩:=h
   cases j with
   | zero =>
     obtain⟨⟨v,v1,v2,v3⟩,_⟩:=h2
     obtain⟨rfl,v4⟩:=v3
     exact⟨s,rfl,v1,v4⟩
   | succ j =>
     obtain⟨s',e1,e2,e3⟩:=adi h3 j (by simpa using hj)
     exact⟨s',by simpa using e1,by rw[show o+(j+1)=o+1+j by omega]; exact e2,e3⟩
theorem UH {w:World} {c:Ctx} {b:Nat}:∀ {o:Nat} {l:List ByteArray},(∀ j (hj:j<l.length),w.cell? ⟨b,o+j,none⟩=some (.string l[j])∧l[j].size≤LIM)→aJ w c 1 b o (l.map Jd)
 | _,[],_=>trivial
 | o,s::l,h=>by
   have h0:=h 0 (by simp)
   refine⟨rfl,⟨⟨.string s,by simpa using h0.1,rfl,rfl,by simpa using h0.2⟩,trivial⟩,UH fun j hj=>?_⟩
   have:=h (j+1) (by simpa using hj)
   rw[show o+(j+1)=o+1+j by omega] at this
   simpa using this
theorem aHA {l:List ByteArray} (h:l.length=0):yt l=l:=by
 obtain rfl:l=[]:=List.length_eq_zero_iff.1 h
 have:=afa []
 exact List.length_eq_zero_iff.1 this
theorem aHI {P:Program} {f:FuncId} (hS:agk P f) {g:Key} {fl:Bool} {l:List ByteArray} {h:List (Key × Option HE)} (he:hk g h=some ⟨1,l.map Jd,false,false⟩) :
 aCP P f [.own g 1 0 l.length fl] h (.tup []) ((g,some ⟨1,(yt l).map Jd,false,false⟩)::h):=by
 obtain⟨hS0,hS1,hS2⟩:=hS
 refine⟨hS0,fun E a c w vs d s hP hg hrep=>?_⟩
 obtain⟨v,vs',rfl,hv,hvs⟩:=hrep
 obtain rfl:vs'=[]:=hvs
 obtain⟨u1,u2,u3,sa,cap,rfl,v2,v3,v4,v5,v6⟩:=hv
 have hh:=hg.hgood
 have fin:∀ (w' : World),dw E ((g,some ⟨1,(yt l).map Jd,false,false⟩)::h) c w'→dZ c.Fz w w'→∃ v,Ending.returned (.tuple #[])=.returned v∧∃ c',Good E ⟨Ji d (.tup []) s,(g,some ⟨1,(yt l).map Jd,false,false⟩)::h⟩ c' (a.put d v) w':=fun w' k1 k2=>by
  refine⟨_,rfl,c,hg.put (r:=.tup []) ?_ k1 ?_ (Ctx.Le.refl c) k2⟩
  ·cases d<;>rfl
  ·exact⟨#[],rfl,rfl⟩
 by_cases h0:l.length=0
 ·rw[h0]
  refine Calls.mono (hS2 sa cap w) ?_
  rintro e w' ⟨rfl,rfl⟩
  refine fin w' ?_ (dZ.refl _ _)
  rw[aHA h0]
  exact hh.congr fun k e hk'=>by
   rw[gq] at hk'
   split at hk'
   ·rename_i e1; subst e1; rw[he]; exact hk'
   ·exact hk'
 ·obtain⟨ad,b1,b2,⟨ca,el,fr,b3,b4,b5⟩,b6,b7⟩:=(hh.heap g _ he).block (by simpa using Nat.pos_of_ne_zero h0)
  simp only[List.length_map,Nat.mul_one] at b4
  have b6' : aJ w c.d 1 ad.block ad.off (l.map Jd):=b6
  rw[b1] at v6
  have v6':=v6.resolve_left (by omega)
  obtain⟨rfl,_⟩:=v6'
  have hblk:ad.block<w.heap.size:=(Array.getElem?_eq_some_iff.1 b3).1
  have hcell:=adi b6'
  have hH:Go.Sort.Holds Go.Proofs.encStr w ad.block ad.off (l.map fun s=>s.data.toList).toArray:=fun j hj=>by
   have hj' : j<l.length:=by simpa using hj
   obtain⟨s',e1,e2,e3⟩:=hcell j hj'
   refine⟨?_,?_⟩
   ·rw[e2]
    obtain⟨e4,e5⟩:=List.getElem?_eq_some_iff.1 e1
    rw[getElem!_pos _ j hj]
    simp[Go.Proofs.encStr,e5]
   ·simp only[World.frozen?,b3]
    have:=b5 (ad.off+j) (by omega)
    simpa using this
  have hss:((l.map fun s=>s.data.toList).length)=l.length:=by simp
  have hc:=hS1 ad.block ad.off cap (l.map fun s=>s.data.toList) w hH hblk (by rw[hss]; simp only[LIM] at v4; omega)
  rw[hss] at hc
  have e0:(⟨ad.block,ad.off+0*1,none⟩ : Addr)=⟨ad.block,ad.off,none⟩:=by simp
  rw[show (#[Value.slice (some ⟨ad.block,ad.off+0*1,none⟩) l.length cap]:Array Value)=#[Value.slice (some ⟨ad.block,ad.off,none⟩) l.length cap] by simp]
  refine Calls.mono hc ?_
  rintro e w' ⟨rfl,n,os,rfl⟩
  generalize hsd:((l.map fun s=>s.data.toList).mergeSort fun x y=>decide (x≤y))=sd
  have hsl:sd.length=l.length:=by rw[← hsd,List.length_mergeSort,hss]
  have hsS:yt l=sd.map fun x=>⟨x.toArray⟩:=by rw[← hsd]; rfl
  have hH' : Go.Sort.Holds Go.Proofs.encStr (Go.Sort.ahead w n) ad.block ad.off (l.map fun s=>s.data.toList).toArray:=Go.Sort.holds_ahead _ _ _ _ _ _ hH
  have hput:(Go.Sort.putRow Go.Proofs.encStr (Go.Sort.ahead w n) ad.block ad.off sd.toArray).heap=w.heap.modify ad.block (Go.Sort.onCells (Go.Sort.putCells Go.Proofs.encStr ad.off sd.toArray)):=rfl
  obtain⟨k1,k2⟩:=hh.rows he b1 rfl (w':=Go.Sort.grow (Go.Sort.putRow Go.Proofs.encStr (Go.Sort.ahead w n) ad.block ad.off sd.toArray) os) (xs':=(yt l).map Jd)
   (by simp[afa]) (by simpa using Nat.pos_of_ne_zero h0) (by simp) (fun b hb hne=>by
    rw[Go.Sort.heap_grow_old _ _ (by simpa using hb),hput,Array.getElem?_modify,if_neg (fun e=>hne e.symm)])
   (fun cs el fr hb=>by
    refine⟨Go.Sort.putCells Go.Proofs.encStr ad.off sd.toArray cs,?_,by simp[Go.Sort.putCells]⟩
    rw[Go.Sort.heap_grow_old _ _ (by simpa using hblk),hput,Array.getElem?_modify,if_pos rfl,hb]
    rfl)
   (Bel.of (hh.below.below.trans ⟨rfl,rfl,rfl,by simp,fun k hk=>by
    rw[Go.Sort.heap_grow_old _ _ (by simpa using Nat.lt_of_lt_of_le hk hh.below.size),hput,Array.getElem?_modify,if_neg]
    have:=(hh.fresh g _ ad he b1).1
    omega⟩))
   (UH fun j hj=>by
    have hj1:j<l.length:=by rw[afa] at hj; exact hj
    refine⟨?_,?_⟩
    ·rw[Go.Sort.cell?_grow _ _ _ (by simpa using hblk),Go.Sort.cell?_putRow Go.Proofs.encStr (Go.Sort.ahead w n) ad.block ad.off _ sd.toArray hH' (by simp[hsl]) j (by simpa[hsl] using hj1)]
     rw[getElem!_pos _ j (by simpa[hsl] using hj1)]
     simp[hsS,Go.Proofs.encStr]
    ·have hm:(yt l)[j]∈l:=(aoN l).mem_iff.1 (List.getElem_mem hj)
     obtain⟨i,hi,e⟩:=List.getElem_of_mem hm
     obtain⟨s',e1,e2,e3⟩:=hcell i hi
     obtain⟨e4,e5⟩:=List.getElem?_eq_some_iff.1 e1
     rw[← e,e5]; exact e3)
  exact fin _ k1 k2
def Wz (P:Program) (f:FuncId):Prop:=callable P f=true ∧
 (∀ (blk off cap:Nat) (zs:List (List UInt8)) (w:World),Go.Sort.Holds Go.Proofs.encStr w blk off zs.toArray→zs.length≤9223372036854775807→zs.length≤cap →
  Calls P f #[.slice (some ⟨blk,off,none⟩) zs.length cap] w fun e w'=>e=.returned (.slice (some ⟨blk,off,none⟩) (Go.Lib.compact zs).length cap)∧∃ q,w'=Go.Sort.putRow Go.Proofs.encStr (Go.Sort.ahead w q) blk off (Go.Lib.compact zs++List.replicate (zs.length-(Go.Lib.compact zs).length) []).toArray) ∧
 (∀ (a:Option Addr) (cap:Nat) (w:World),Calls P f #[.slice a 0 cap] w fun e w'=>e=.returned (.slice a 0 cap)∧w'=w)
def o8 (l:List ByteArray):List ByteArray:=(Go.Lib.compact (l.map fun s=>s.data.toList)).map fun x=>⟨x.toArray⟩
theorem ad8 (l:List ByteArray):(o8 l).length≤l.length:=by
 unfold o8 Go.Lib.compact Go.Lib.compactUpTo
 simp only[List.length_map]
 exact Nat.le_trans (List.length_filter_le _ _) (by simp)
theorem azi {l:List ByteArray} {s:ByteArray} (h:s∈o8 l):s∈l:=by
 unfold o8 Go.Lib.compact Go.Lib.compactUpTo at h
 obtain⟨x,hx,rfl⟩:=List.mem_map.1 h
 obtain⟨j,hj,rfl⟩:=List.mem_map.1 hx
 have hj':=List.mem_range.1 (List.mem_filter.1 hj).1
 have hj2:j<l.length:=by simpa using hj'
 rw[getElem!_pos _ j (by simpa using hj2)]
 have e:(⟨((l.map fun (s:ByteArray)=>s.data.toList).toArray[j]'(by simpa using hj2)).toArray⟩ : ByteArray)=l[j]:=by simp
 rw[e]
 exact List.getElem_mem hj2
def wH (l:List ByteArray):List ByteArray:=o8 l++List.replicate (l.length-(o8 l).length) ByteArray.empty
theorem ajw (l:List ByteArray):(wH l).length=l.length:=by
 have:=ad8 l
 simp[wH]; omega
theorem aAo {E:Env} {h:List (Key × Option HE)} {c:Ctx} {w:World} (hh:dw E h c w) {g:Key} {l:List ByteArray} {ad:Addr} (he:hk g h=some ⟨1,l.map Jd,false,false⟩) (b1:c.β g=some ad) (h0:¬ l.length=0) (n:Nat) (os:Array Obj) {l' : List ByteArray}
 (hl:l'.length=l.length) (hm:∀ s∈l',s.size≤LIM) :
 dw E ((g,some ⟨1,l'.map Jd,false,false⟩)::h) c (Go.Sort.grow (Go.Sort.putRow Go.Proofs.encStr (Go.Sort.ahead w n) ad.block ad.off (l'.map fun s=>s.data.toList).toArray) os) ∧
  dZ c.Fz w (Go.Sort.grow (Go.Sort.putRow Go.Proofs.encStr (Go.Sort.ahead w n) ad.block ad.off (l'.map fun s=>s.data.toList).toArray) os) ∧
  Go.Sort.Holds Go.Proofs.encStr w ad.block ad.off (l.map fun s=>s.data.toList).toArray∧ad.block<w.heap.size:=by
 obtain⟨ad',b1',b2,⟨ca,el,fr,b3,b4,b5⟩,b6,b7⟩:=(hh.heap g _ he).block (by simpa using Nat.pos_of_ne_zero h0)
 rw[b1] at b1'
 obtain rfl:=Option.some.inj b1'
 simp only[List.length_map,Nat.mul_one] at b4
 have b6' : aJ w c.d 1 ad.block ad.off (l.map Jd):=b6
 have hblk:ad.block<w.heap.size:=(Array.getElem?_eq_some_iff.1 b3).1
 have hcell:=adi b6'
 have hH:Go.Sort.Holds Go.Proofs.encStr w ad.block ad.off (l.map fun s=>s.data.toList).toArray:=fun j hj=>by
  have hj' : j<l.length:=by simpa using hj
  obtain⟨s',e1,e2,e3⟩:=hcell j hj'
  refine⟨?_,?_⟩
  ·rw[e2]
   obtain⟨e4,e5⟩:=List.getElem?_eq_some_iff.1 e1
   rw[getElem!_pos _ j hj]
   simp[Go.Proofs.encStr,e5]
  ·simp only[World.frozen?,b3]
   have:=b5 (ad.off+j) (by omega)
   simpa using this
 have hH' : Go.Sort.Holds Go.Proofs.encStr (Go.Sort.ahead w n) ad.block ad.off (l.map fun s=>s.data.toList).toArray:=Go.Sort.holds_ahead _ _ _ _ _ _ hH
 generalize hsd:(l'.map fun s=>s.data.toList)=sd
 have hsl:sd.length=l.length:=by rw[← hsd,List.length_map,hl]
 have hput:(Go.Sort.putRow Go.Proofs.encStr (Go.Sort.ahead w n) ad.block ad.off sd.toArray).heap=w.heap.modify ad.block (Go.Sort.onCells (Go.Sort.putCells Go.Proofs.encStr ad.off sd.toArray)):=rfl
 obtain⟨k1,k2⟩:=hh.rows he b1 rfl (w':=Go.Sort.grow (Go.Sort.putRow Go.Proofs.encStr (Go.Sort.ahead w n) ad.block ad.off sd.toArray) os) (xs':=l'.map Jd)
  (by simp[hl]) (by simpa using Nat.pos_of_ne_zero h0) (by simp) (fun b hb hne=>by
   rw[Go.Sort.heap_grow_old _ _ (by simpa using hb),hput,Array.getElem?_modify,if_neg (fun e=>hne e.symm)])
  (fun cs el fr hb=>by
   refine⟨Go.Sort.putCells Go.Proofs.encStr ad.off sd.toArray cs,?_,by simp[Go.Sort.putCells]⟩
   rw[Go.Sort.heap_grow_old _ _ (by simpa using hblk),hput,Array.getElem?_modify,if_pos rfl,hb]
   rfl)
  (Bel.of (hh.below.below.trans ⟨rfl,rfl,rfl,by simp,fun k hk=>by
   rw[Go.Sort.heap_grow_old _ _ (by simpa using Nat.lt_of_lt_of_le hk hh.below.size),hput,Array.getElem?_modify,if_neg]
   have:=(hh.fresh g _ ad he b1).1
   omega⟩))
  (UH fun j hj=>by
   have hj1:j<l.length:=by rw[hl] at hj; exact hj
   refine⟨?_,hm _ (List.getElem_mem hj)⟩
   rw[Go.Sort.cell?_grow _ _ _ (by simpa using hblk),Go.Sort.cell?_putRow Go.Proofs.encStr (Go.Sort.ahead w n) ad.block ad.off _ sd.toArray hH' (by simp[hsl]) j (by simpa[hsl] using hj1)]
   rw[getElem!_pos _ j (by simpa[hsl] using hj1)]
   simp[← hsd,Go.Proofs.encStr])
 exact⟨k1,k2,hH,hblk⟩
theorem aC7 {P:Program} {f:FuncId} (hS:Wz P f) {g:Key} {l:List ByteArray} {h:List (Key × Option HE)} (he:hk g h=some ⟨1,l.map Jd,false,false⟩) :
 aCP P f [.own g 1 0 l.length false] h (.own g 1 0 (o8 l).length false) ((g,some ⟨1,(wH l).map Jd,false,false⟩)::h):=by
 obtain⟨hS0,hS1,hS2⟩:=hS
 refine⟨hS0,fun E a c w vs d s hP hg hrep=>?_⟩
 obtain⟨v,vs',rfl,hv,hvs⟩:=hrep
 obtain rfl:vs'=[]:=hvs
 have hv0:=hv
 obtain⟨u1,u2,u3,sa,cap,rfl,v2,v3,v4,v5,v6⟩:=hv
 have hh:=hg.hgood
 by_cases h0:l.length=0
 ·have e1:o8 l=[]:=List.length_eq_zero_iff.1 (by have:=ad8 l; omega)
  have e2:wH l=l:=by
   obtain rfl:l=[]:=List.length_eq_zero_iff.1 h0
   simp[wH,e1]
  rw[h0,e1,e2]
  refine Calls.mono (hS2 sa cap w) ?_
  rintro e w' ⟨rfl,rfl⟩
  refine⟨_,rfl,c,hg.put (r:=.own g 1 0 0 false) (by cases d<;>rfl) (hh.congr fun k e hk'=>?_) (by rw[h0] at hv0; exact hv0) (Ctx.Le.refl c) (dZ.refl _ _)⟩
  rw[gq] at hk'
  split at hk'
  ·rename_i e1; subst e1; rw[he]; exact hk'
  ·exact hk'
 ·obtain⟨ad,b1,_⟩:=(hh.heap g _ he).block (by simpa using Nat.pos_of_ne_zero h0)
  rw[b1] at v6
  have v6':=v6.resolve_left (by omega)
  obtain⟨rfl,w6⟩:=v6'
  have hss:((l.map fun s=>s.data.toList).length)=l.length:=by simp
  have hbd:∀ s∈l,s.size≤LIM:=fun s hs=>by
   obtain⟨ad',b1',b2,b3,b6,b7⟩:=(hh.heap g _ he).block (by simpa using Nat.pos_of_ne_zero h0)
   obtain⟨i,hi,e⟩:=List.getElem_of_mem hs
   obtain⟨s',e1,e2,e3⟩:=adi (w:=w) (c:=c.d) b6 i hi
   obtain⟨e4,e5⟩:=List.getElem?_eq_some_iff.1 e1
   rw[← e,e5]; exact e3
  have hR:∀ s∈wH l,s.size≤LIM:=fun s hs=>by
   rcases List.mem_append.1 hs with hs|hs
   ·exact hbd s (azi hs)
   ·rw[(List.mem_replicate.1 hs).2]; simp[LIM]
  have hcl:=ad8 l
  have hml:((wH l).map fun s=>s.data.toList)=Go.Lib.compact (l.map fun s=>s.data.toList)++List.replicate ((l.map fun s=>s.data.toList).length-(Go.Lib.compact (l.map fun s=>s.data.toList)).length) []:=by
   simp[wH,o8,Function.comp_def]
  obtain⟨_,_,hH,hblk⟩:=aAo hh he b1 h0 0 #[] (ajw l) hR
  have hc:=hS1 ad.block ad.off cap (l.map fun s=>s.data.toList) w hH (by rw[hss]; simp only[LIM] at v4; omega) (by rw[hss]; omega)
  rw[hss] at hc
  rw[show (#[Value.slice (some ⟨ad.block,ad.off+0*1,none⟩) l.length cap]:Array Value)=#[Value.slice (some ⟨ad.block,ad.off,none⟩) l.length cap] by simp]
  refine Calls.mono hc ?_
  rintro e w' ⟨rfl,q,rfl⟩
  obtain⟨k1,k2,_,_⟩:=aAo hh he b1 h0 q #[] (ajw l) hR
  rw[hml,hss,Go.Sort.grow_empty] at k1 k2
  have hlen:(Go.Lib.compact (l.map fun s=>s.data.toList)).length=(o8 l).length:=by simp[o8]
  rw[hlen] at k1 k2 ⊢
  refine⟨_,rfl,c,hg.put (r:=.own g 1 0 (o8 l).length false) (by cases d<;>rfl) k1 ?_ (Ctx.Le.refl c) k2⟩
  refine⟨u1,u2,u3,_,cap,rfl,by omega,v3,by omega,by simp,?_⟩
  rw[b1]
  refine .inr ⟨by simp,?_⟩
  obtain⟨cs,el,fr,w1,w2⟩:=w6
  obtain⟨cs',fr',x1,x2⟩:=k2.keep _ _ _ _ w1
  exact⟨cs',el,fr',x1,by omega⟩
end Go.Proofs.YtfilonnphgnplaaGreatDoor.Pv
namespace Go.Proofs.YtfilonnphgnplaaGreatDoor.Pv
open Go Go.RowKit
def uF (P:Program) (f:FuncId) (args:List PV) (h:List (Key × Option HE)) (K:PV→List (Key × Option HE)→Prop):Prop :=
 callable P f=true∧∀ (E:Env) (a:Act) (c:Ctx) (w:World) (vs:List Value) (d:Option Nat) (s:List (Nat × PV)),E.P=P→Good E ⟨s,h⟩ c a w→aY w c args vs →
  Calls P f vs.toArray w fun e w'=>∃ v,e=.returned v∧∃ r h' c',K r h'∧Good E ⟨Ji d r s,h'⟩ c' (a.put d v) w'
theorem uF.mono {P:Program} {f:FuncId} {args:List PV} {h:List (Key × Option HE)} {K K' : PV→List (Key × Option HE)→Prop} (hr:uF P f args h K) (hk:∀ r h',K r h'→K' r h'):uF P f args h K' :=
 ⟨hr.1,fun E a c w vs d s hP hg hrep=>Calls.mono (hr.2 E a c w vs d s hP hg hrep) (by
  rintro e w' ⟨v,he,r,h',c',h1,hg'⟩
  exact⟨v,he,r,h',c',hk r h' h1,hg'⟩)⟩
theorem aj.Vo {E:Env} {f:FuncId} {args:List PV} {d:Option Nat} {ms:List MOp} {st:St} {ks:List KF} {Q:Ex→St→Prop} {K:PV→List (Key × Option HE)→Prop} (hr:uF E.P f args st.h K)
 (h:∀ r h',K r h'→XR E ms ⟨Ji d r st.s,h'⟩ ks Q):aj E f args d ms st ks Q:=by
 refine .inr ⟨hr.1,fun a c w vs hg hrep=>Calls.mono (hr.2 E a c w vs d st.s rfl hg hrep) ?_⟩
 rintro e w' ⟨v,he,r,h',c',hk,hg'⟩
 exact⟨v,he,_,c',h r h' hk,hg'⟩
theorem uF.of {P:Program} {f nt:Nat} {m:MC} {rs:List RV} {args:List PV} {h:List (Key × Option HE)} {K:PV→List (Key × Option HE)→Prop} (ah:P.follows .mixedOrders=true) (hm:aV P f=some (m.erase,nt,rs)) (hn:args.length≤nt)
 (hx:∀ E:Env,E.P=P→(∀ k e,hk k h=some e→k.2<E.V)→XC E m ⟨(St.init args).s,h⟩ [] (alv rs fun r' h''=>∃ h',K r' h'∧(∀ k e,hk k h'=some e→∃ e0,hk k h=some e0)∧∀ k,k.2<E.V→leE (fun k=>hk k h'') (hk k h'') (hk k h'))):uF P f args h K:=by
 obtain⟨fn,c0,hf,hc,hb,rfl,htm,hrs⟩:=PZ hm
 refine⟨hc,fun E a c w vs d s hP hg hr=>?_⟩
 subst hP
 obtain⟨N,hN⟩:=hg.bnd
 have hV:∀ k e,hk k h=some e→k.2<N:=fun k e he=>hN k (hg.heap k e he).1
 refine calls_of_wp hf hb ?_
 refine wp_mono (jk (E:=⟨E.P,E.w0,E.F0,fn.ntmps,ag5 E s a,N,E.glob⟩) ah c0 m _ _ w _ htm ⟨c,ajN hg hr hn⟩ (hx _ rfl hV)) ?_
 rintro e a' w' ⟨ex,st',rfl,hq,c',hg'⟩
 have key:∀ q:Jh st' rs∧∃ h',K (xw st' rs) h'∧(∀ k e,hk k h'=some e→∃ e0,hk k h=some e0)∧∀ k,k.2<N→leE (fun k=>hk k st'.h) (hk k st'.h) (hk k h'),a'.defers=[]∧∃ v,(results fn a'.tmps).run E.P w'=.ok v w'∧∃ v',Ending.returned v=.returned v'∧∃ r h' c'',K r h'∧Good E ⟨Ji d r s,h'⟩ c'' (a.put d v') w':=by
  rintro⟨q1,h',q0,hold,q2⟩
  obtain⟨v,k1,k2⟩:=QJ hg' hrs q1
  refine⟨hg'.defers,v,k1,v,rfl,_,h',c',q0,(auk hg hg' k2).leH fun k=>?_⟩
  cases he:hk k h' with
  | none=>cases hk k st'.h<;>trivial
  | some e =>
    obtain⟨e0,he0⟩:=hold k e he
    have:=q2 k (hV k e0 he0)
    rw[he] at this
    exact this
 cases ex with
 | normal=>exact key hq
 | ret=>exact key hq
 | exit id=>exact hq.elim
 | goto l=>exact hq.elim
end Go.Proofs.YtfilonnphgnplaaGreatDoor.Pv
namespace Go.Proofs.YtfilonnphgnplaaGreatDoor.Pv
open Go Go.RowKit
section
variable {E:Env} {h:List (Key × Option HE)} {c:Ctx} {w:World}
theorem dw.more (hg:dw E h c w) {g:Key} {e:HE} {ad:Addr} (he:hk g h=some e) (had:c.β g=some ad) (hbx:e.bx=false) {xs:List (List PV)}
 (hsz:∃ cs el fr,w.heap[ad.block]? = some (.cells cs el fr)∧ad.off+xs.length*e.esz≤cs.size) (hr:aJ w c.d e.esz ad.block ad.off xs):dw E ((g,some { e with xs:=xs })::h) c w:=by
 have look:∀ k e',hk k ((g,some ({ e with xs:=xs }:HE))::h)=some e'→∃ e0,hk k h=some e0∧((k=g∧e'={ e with xs:=xs })∨(k≠g∧e0=e')):=fun k e' hk'=>by
  rw[gq] at hk'
  split at hk'
  ·rename_i h2
   subst h2
   exact⟨e,he,.inl ⟨rfl,(Option.some.inj hk').symm⟩⟩
  ·rename_i h2
   exact⟨e',hk',.inr ⟨h2,rfl⟩⟩
 refine⟨fun k e' hk'=>?_,fun k e' ad' hk' had'=>?_,fun k k' e1 e2 ad1 ad2 h1 h2 h3 h4 hne=>?_,hg.fz,hg.le,hg.bnd,hg.below⟩
 ·obtain⟨e0,h0,⟨rfl,rfl⟩|⟨_,rfl⟩⟩:=look k e' hk'
  ·obtain⟨u1,u2,u3⟩:=hg.heap _ _ he
   refine⟨u1,u2,?_⟩
   rw[had] at u3 ⊢
   obtain⟨b1,⟨cs,el,fr,b2,b3,b4⟩,b5,b6⟩:=u3
   obtain⟨cs',el',fr',c1,c2⟩:=hsz
   rw[b2] at c1
   obtain⟨rfl,rfl,rfl⟩ : cs=cs'∧el=el'∧fr=fr':=by simpa using c1
   exact⟨b1,⟨cs,el,fr,b2,c2,b4⟩,by simpa[hbx] using hr,b6⟩
  ·exact hg.heap k _ h0
 ·obtain⟨e0,h0,_⟩:=look k e' hk'
  exact hg.fresh k e0 ad' h0 had'
 ·obtain⟨f1,g1,_⟩:=look k e1 h1
  obtain⟨f2,g2,_⟩:=look k' e2 h2
  exact hg.apart k k' f1 f2 ad1 ad2 g1 g2 h3 h4 hne
theorem dw.del (hg:dw E h c w) {g:Key} {esz:Nat} {xs:List (List PV)} {ad:Addr} (he:hk g h=some ⟨esz,xs,false,false⟩) (had:c.β g=some ad) {i:Nat} (hi:i<xs.length) {news zs:List Value} {p q:Nat}
 (hnews:aY w c.d (xs.drop (i+1)).flatten news) (h1:∀ u∈news,u.oneCell'=true) (hp:p=ad.off+i*esz) (hq:q=ad.off+(xs.length-1)*esz) :
 dw E ((g,some ⟨esz,xs.eraseIdx i,false,false⟩)::h) c ((w.setCells ad.block p news).setCells ad.block q zs)∧dZ c.Fz w ((w.setCells ad.block p news).setCells ad.block q zs):=by
 obtain⟨u1,u2,u3⟩:=hg.heap _ _ he
 rw[had] at u3
 obtain⟨b1,⟨cs,el,fr,b2,b3,b4⟩,b5,b6⟩:=u3
 have b5' : aJ w c.d esz ad.block ad.off xs:=b5
 have hlens:∀ r∈xs,r.length=esz:=b5'.lens
 have hnl:news.length=(xs.length-(i+1))*esz:=by
  rw[hnews.length,w9 _ fun r hr=>hlens r (List.mem_of_mem_drop hr)]
  simp
 obtain⟨k1,k2⟩:=hg.cut he had rfl (n:=i) (p:=p) (Nat.le_of_lt hi) news (by simp only; omega)
 have b3' : ad.off+xs.length*esz≤cs.size:=b3
 have hmul:i*esz+(xs.length-(i+1))*esz+esz=xs.length*esz:=by
  rw[← Nat.add_mul,← Nat.succ_mul]
  congr 1; omega
 obtain⟨cs2,z1,z2⟩:=qg ad.block news p w cs el fr b2
 have hcells:∀ j,j<news.length→(w.cell? ⟨ad.block,p+j,none⟩).isSome=true:=fun j hj=>by
  have:p+j<cs.size:=by omega
  simp[World.cell?,b2,this]
 have r1:aJ (w.setCells ad.block p news) c.d esz ad.block ad.off (xs.take i):=by
  obtain⟨_,_,v3⟩:=k1.heap g ⟨esz,xs.take i,false,false⟩ (by simp[gq])
  rw[had] at v3
  exact v3.2.2.1
 have r2:aJ (w.setCells ad.block p news) c.d esz ad.block (ad.off+(xs.take i).length*esz) (xs.drop (i+1)):=by
  refine aJ.WH (aY.mono _ _ (c:=c.d) k2 (Ctx.Le.refl c.d) hnews) h1 (fun r hr=>hlens r (List.mem_of_mem_drop hr)) (fun j v hj=>?_)
  have hlt:j<news.length:=(List.getElem?_eq_some_iff.1 hj).1
  have e:ad.off+(xs.take i).length*esz=p:=by rw[List.length_take,Nat.min_eq_left (Nat.le_of_lt hi),hp]
  rw[e,World.cell?_setCells_in _ _ _ _ hcells j hlt]
  rw[List.getElem?_eq_getElem hlt] at hj
  exact hj
 have hxl:(xs.take i++xs.drop (i+1)).length=xs.length-1:=by simp; omega
 have hle:(xs.length-1)*esz≤xs.length*esz:=Nat.mul_le_mul_right _ (by omega)
 have m1:=k1.more (g:=g) (e:=⟨esz,xs.take i,false,false⟩) (by simp[gq]) had rfl (xs:=xs.take i++xs.drop (i+1))
  ⟨cs2,el,fr,z1,by rw[hxl]; show ad.off+(xs.length-1)*esz≤_; rw[z2]; omega⟩ (aJ.append r1 r2)
 obtain⟨n1,n2⟩:=m1.cut (g:=g) (e:=⟨esz,xs.take i++xs.drop (i+1),false,false⟩) (by simp[gq]) had rfl (n:=xs.length-1) (p:=q) (by show _≤(xs.take i++xs.drop (i+1)).length; rw[hxl]; exact Nat.le_refl _) zs (by show ad.off+(xs.length-1)*esz≤q; omega)
 refine⟨n1.congr fun k e' hk'=>?_,k2.trans n2⟩
 rw[gq] at hk' ⊢
 split at hk'
 ·rename_i e1
  rw[if_pos e1,← hk',List.eraseIdx_eq_take_drop_succ]
  show some (HE.mk esz ((xs.take i++xs.drop (i+1)).take (xs.length-1)) false false)=_
  rw[List.take_of_length_le (l:=xs.take i++xs.drop (i+1)) (by rw[hxl]; exact Nat.le_refl _)]
 ·rename_i e1
  rw[if_neg e1,gq,if_neg e1,gq,if_neg e1]; exact hk'
theorem RU.drew' {k:Key} {e:HE} (h:RU w c k e):RU w.drew c k e:=by
 obtain⟨h1,h2,h3⟩:=h
 refine⟨h1,h2,?_⟩
 cases hb:c.β k with
 | none=>rw[hb] at h3; exact h3
 | some ad =>
   rw[hb] at h3
   obtain⟨b1,b2,b3,b4⟩:=h3
   refine⟨b1,b2,?_,b4⟩
   split
   ·rename_i hx
    rw[if_pos hx] at b3
    exact aJ.mono (w:=w) (w':=w.drew) _ _ rfl _ _ (IQ w) (Ctx.Le.refl _) b3
   ·rename_i hx
    rw[if_neg hx] at b3
    exact aJ.mono (w:=w) (w':=w.drew) _ _ rfl _ _ (c:=c.d) (IQ w) (Ctx.Le.refl _) b3
theorem dw.drew (hg:dw E h c w):dw E h c w.drew :=
 ⟨fun k e he=>(hg.heap k e he).drew',hg.fresh,hg.apart,hg.fz,hg.le,hg.bnd,hg.below.drew⟩
end
end Go.Proofs.YtfilonnphgnplaaGreatDoor.Pv
namespace Go.Proofs.YtfilonnphgnplaaGreatDoor.Pv
open Go Go.RowKit
def trunc (w:World) (B:Nat):World:={ w with heap:=w.heap.extract 0 B }
theorem uG {w:World} {B:Nat} (h:B≤w.heap.size):(trunc w B).heap.size=B:=by simp[trunc,Nat.min_eq_left h]
theorem BF (w:World) (B:Nat) {k:Nat} (hk:k<B):(trunc w B).heap[k]? = w.heap[k]? := by
 simp only[trunc,Array.getElem?_extract]
 split
 ·simp
 ·rename_i h
  rw[Array.getElem?_eq_none (by omega)]
theorem amR (w:World) (B:Nat) (hB:B≤w.heap.size):Bel B (trunc w B) w :=
 Bel.of ⟨rfl,rfl,rfl,by rw[uG hB]; exact hB,fun k hk=>(BF w B hk).symm⟩
section
variable {E:Env} {st:St} {c:Ctx} {a:Act} {w w' : World} {B:Nat}
theorem Good.gok (hg:Good E st c a w) (hB:E.w0.heap.size≤B) (hBw:B≤w'.heap.size) (hm:dZ c.Fz w w'):GOk E.P (trunc w' B) (fun b=>c.Fz b∧b<B):=fun g cs hgt=>by
 obtain⟨h1,h2,h3⟩:=E.glob g cs hgt
 have hf:=hg.le g h2
 have e:(trunc w' B).heap[g]? = E.w0.heap[g]? := by
  rw[BF w' B (Nat.lt_of_lt_of_le h1 hB),hm.same g hf,hg.below.block g h1]
 refine⟨by rw[uG hBw]; omega,⟨hf,by omega⟩,fun j n hj=>?_⟩
 obtain⟨h4,h5⟩:=h3 j n hj
 exact⟨by rw[← h4]; exact cell_of_heap e j,h5⟩
theorem Good.aME (hg:Good E st c a w) (hB:E.w0.heap.size≤B) (hBw:B≤w'.heap.size) (hm:dZ c.Fz w w') (ho:∀ k e ad,hk k st.h=some e→c.β k=some ad→B≤ad.block∧w'.heap[ad.block]? = w.heap[ad.block]?) :
 Good ⟨E.P,trunc w' B,fun b=>c.Fz b∧b<B,E.nt,E.G,E.V,hg.gok hB hBw hm⟩ st c a w' where
 defers:=hg.defers
 size:=hg.size
 slot:=fun t v hv=>bF.mono _ _ hm (Ctx.Le.refl c) (hg.slot t v hv)
 heap:=fun k e he=>(hg.heap k e he).mono hm (Ctx.Le.refl c) (fun _ _=>Iff.rfl) (fun ad had=>(ho k e ad he had).2)
 fresh:=fun k e ad he had=>⟨by show (trunc w' B).heap.size≤_; rw[uG hBw]; exact (ho k e ad he had).1,Nat.lt_of_lt_of_le (hg.fresh k e ad he had).2 hm.size⟩
 apart:=hg.apart
 fz:=fun b hb=>⟨Nat.lt_of_lt_of_le (hg.fz b hb).1 hm.size,by
  show (c.Fz b∧b<B)∨(trunc w' B).heap.size≤b
  rw[uG hBw]
  rcases Nat.lt_or_ge b B with h|h
  ·exact .inl ⟨hb,h⟩
  ·exact .inr h⟩
 le:=fun b hb=>hb.1
 bnd:=hg.bnd
 below:=by show Bel (trunc w' B).heap.size (trunc w' B) w'; rw[uG hBw]; exact amR w' B hBw
 ghost:=fun p hp=>bF.mono _ _ hm (Ctx.Le.refl c) (hg.ghost p hp)
end
end Go.Proofs.YtfilonnphgnplaaGreatDoor.Pv
namespace Go.Proofs.YtfilonnphgnplaaGreatDoor.Pv
open Go Go.RowKit
section
variable {P:Program} {a:Act} {w:World} {Q:Exit→Act→World→Prop}
theorem atp {c rest:Code} (l:Nat) (J:Nat→Act→World→Prop) (hf:findLabel c l=some rest)
 (first:c.wp P (Exit.jump l (fun a w=>∃ n,J n a w) Q) a w)
 (pass:∀ n a w,J n a w→rest.wp P (Exit.jump l (fun a' w'=>∃ m,m<n∧J m a' w') Q) a w):(Code.scope c).wp P Q a w:=by
 intro b k cs
 have hg:gotoIn l (.inScope c::k)=some (.code rest::.inScope c::k):=by simp[gotoIn,hf]
 have key:∀ n a w,J n a w→∃ e a' w',Q e a' w'∧Arrives P (lone (b.at a (.code rest::.inScope c::k)) cs w) b k cs e a' w':=by
  intro n
  induction n using Nat.strongRecOn with
  | _ n ih =>
    intro a w hJ
    obtain⟨e,a₁,w₁,hq,harr⟩:=pass n a w hJ b (.inScope c::k) cs
    cases e with
    | normal=>exact⟨.normal,a₁,w₁,hq,Steps.trans harr (.one step_inScope)⟩
    | exit id=>exact⟨.exit id,a₁,w₁,hq,fun k' hk=>harr k' (by simp[exitTo,hk])⟩
    | goto l' =>
      obtain⟨rfl,m,hlt,hJ'⟩:=hq
      obtain⟨e₂,a₂,w₂,hq₂,harr₂⟩:=ih m hlt a₁ w₁ hJ'
      exact⟨e₂,a₂,w₂,hq₂,.of_steps (harr _ hg) harr₂⟩
    | ret=>exact⟨_,a₁,w₁,hq,harr⟩
    | panic ch=>exact⟨_,a₁,w₁,hq,harr⟩
    | outgrown=>exact⟨_,a₁,w₁,hq,harr⟩
 obtain⟨e,a₁,w₁,hq,harr⟩:=first b (.inScope c::k) cs
 cases e with
 | normal=>exact⟨.normal,a₁,w₁,hq,.head step_scope (Steps.trans harr (.one step_inScope))⟩
 | exit id=>exact⟨.exit id,a₁,w₁,hq,fun k' hk=>.head step_scope (harr k' (by simp[exitTo,hk]))⟩
 | goto l' =>
   obtain⟨rfl,n,hJ'⟩:=hq
   obtain⟨e₂,a₂,w₂,hq₂,harr₂⟩:=key n a₁ w₁ hJ'
   exact⟨e₂,a₂,w₂,hq₂,.of_steps (.head step_scope (harr _ hg)) harr₂⟩
 | ret=>exact⟨_,a₁,w₁,hq,.of_steps (.one step_scope) harr⟩
 | panic ch=>exact⟨_,a₁,w₁,hq,.of_steps (.one step_scope) harr⟩
 | outgrown=>exact⟨_,a₁,w₁,hq,.of_steps (.one step_scope) harr⟩
end
theorem abl {P:Program} {nt:Nat} {i:Nat} {ops:Array Oper} {d:Bool} {m:MC} (h:fq P nt (.region i ops d)=some m):(∃ ms,m=.reg ms)∨∃ un ms,m=.draw un ms:=by
 simp only[fq] at h
 split at h
 ·split at h
  ·split at h
   ·exact .inr ⟨_,_,(Option.some.inj h).symm⟩
   ·cases h
  ·exact .inl ⟨_,(Option.some.inj h).symm⟩
 ·cases h
theorem o9 {P:Program} {nt:Nat} {c:Code} {m n:MC} (h:fq P nt c=some (.seq m n)):∃ x y,c=.seq x y∧fq P nt x=some m∧fq P nt y=some n:=by
 cases c with
 | seq x y =>
   simp only[fq] at h
   split at h
   ·rename_i h1 h2
    cases h
    exact⟨x,y,rfl,h1,h2⟩
   ·cases h
 | region i ops d=>rcases abl h with ⟨_,h⟩|⟨_,_,h⟩<;>cases h
 | cond q x y=>simp only[fq] at h; split at h<;>cases h
 | loop x=>simp[fq] at h
 | block id x=>simp[fq] at h
 | scope x=>simp[fq] at h
 | _=>simp[fq] at h
theorem aFN {P:Program} {nt:Nat} {c:Code} {m:MC} (h:fq P nt c=some (.scope m)):∃ x,c=.scope x∧fq P nt x=some m:=by
 cases c with
 | scope x =>
   simp only[fq,Option.map_eq_some_iff,MC.scope.injEq,exists_eq_right] at h
   exact⟨x,rfl,h⟩
 | seq x y=>simp only[fq] at h; split at h<;>cases h
 | region i ops d=>rcases abl h with ⟨_,h⟩|⟨_,_,h⟩<;>cases h
 | cond q x y=>simp only[fq] at h; split at h<;>cases h
 | loop x=>simp[fq] at h
 | block id x=>simp[fq] at h
 | _=>simp[fq] at h
theorem aGv {P:Program} {nt:Nat} {c:Code} {l:Nat} (h:fq P nt c=some (.label l)):c=.label l:=by
 cases c with
 | label x =>
   simp only[fq,Option.some.injEq,MC.label.injEq] at h
   rw[h]
 | seq x y=>simp only[fq] at h; split at h<;>cases h
 | region i ops d=>rcases abl h with ⟨_,h⟩|⟨_,_,h⟩<;>cases h
 | cond q x y=>simp only[fq] at h; split at h<;>cases h
 | loop x=>simp[fq] at h
 | block id x=>simp[fq] at h
 | scope x=>simp[fq] at h
 | _=>simp[fq] at h
def alu:MC→Bool
 | .seq a b=>alu a&&alu b
 | .label _=>false
 | _=>true
theorem ah1 {P:Program} {nt:Nat} (l:Nat):∀ (c:Code) (m:MC),fq P nt c=some m→alu m=true→findLabel c l=none
 | .seq x y,m,h,hn=>by
   simp only[fq] at h
   split at h
   ·rename_i m1 m2 h1 h2
    cases h
    simp only[alu,Bool.and_eq_true] at hn
    simp only[findLabel,ah1 l x m1 h1 hn.1,ah1 l y m2 h2 hn.2]
   ·cases h
 | .label k,m,h,hn=>by
   simp only[fq,Option.some.injEq] at h
   subst h
   simp[alu] at hn
 | .skip,_,_,_|.region _ _ _,_,_,_|.cond _ _ _,_,_,_|.block _ _,_,_,_|.loop _,_,_,_|.exit _,_,_,_|.ret,_,_,_|.scope _,_,_,_|.goto _,_,_,_|.rangeFunc _ _ _ _,_,_,_|.refuse _,_,_,_=>rfl
section
variable {E:Env} {A R:MC} {st st' : St} {ks:List KF} {Q:Ex→St→Prop} {ι:Type} {id:Nat}
def AQ (E:Env) (ts:List (Nat × Nat × Nat)) (S:Nat→ι→St) (J:ι→Prop) (ks:List KF) (Q:Ex→St→Prop):Ex→St→Prop
 | .normal,st'=>∃ j,J j∧∀ v,LS (lU ts v st') (S v j)
 | .goto _,_=>False
 | e,st'=>XE E e st' ks Q
def SQ (E:Env) (l:Nat) (ts:List (Nat × Nat × Nat)) (S:Nat→ι→St) (J:ι→Prop) (μ:ι→Nat) (i:ι) (ks:List KF) (Q:Ex→St→Prop):Ex→St→Prop
 | .goto l',st'=>l'=l∧∃ j,J j∧μ j<μ i∧∀ v,LS (lU ts v st') (S v j)
 | e,st'=>XE E e st' ks Q
variable {l l' : Nat} {ts:List (Nat × Nat × Nat)} {S:Nat→ι→St} {J:ι→Prop} {μ:ι→Nat} {i:ι}
theorem aHG:SQ E l ts S J μ i ks Q .normal st'=XE E .normal st' ks Q:=propext Iff.rfl
theorem aLS:SQ E l ts S J μ i ks Q (.exit id) st'=XE E (.exit id) st' ks Q:=propext Iff.rfl
theorem aMC:SQ E l ts S J μ i ks Q .ret st'=XE E .ret st' ks Q:=propext Iff.rfl
theorem aLd:SQ E l ts S J μ i ks Q (.goto l') st'=(l'=l∧∃ j,J j∧μ j<μ i∧∀ v,LS (lU ts v st') (S v j)):=propext Iff.rfl
theorem aHh:AQ E ts S J ks Q .normal st'=∃ j,J j∧∀ v,LS (lU ts v st') (S v j):=propext Iff.rfl
theorem aLZ:AQ E ts S J ks Q (.exit id) st'=XE E (.exit id) st' ks Q:=propext Iff.rfl
theorem aMU:AQ E ts S J ks Q .ret st'=XE E .ret st' ks Q:=propext Iff.rfl
attribute [simp] aHh aLZ aMU
attribute [simp] aHG aLS aMC aLd
theorem aU.scope (ah:E.P.follows .mixedOrders=true) (ts:List (Nat × Nat × Nat)) (hts:zy ts=true) (l:Nat) (S:Nat→ι→St) (J:ι→Prop) (μ:ι→Nat) (hA:alu A.erase=true)
 (h1:XC E A st [] (AQ E ts S J ks Q)) (h2:∀ v j,E.V≤v→J j→XC E R (S v j) [] (SQ E l ts S J μ j ks Q)):aU E (.scope (.seq A (.seq (.label l) R))) st ks Q:=by
 intro c hm a w hrel
 obtain⟨x,rfl,hx⟩:=aFN hm
 obtain⟨ca,cb,rfl,ha,hb⟩:=o9 hx
 obtain⟨cl,cr,rfl,hl,hr⟩:=o9 hb
 obtain rfl:=aGv hl
 have hfind:findLabel (.seq ca (.seq (.label l) cr)) l=some (.seq .skip cr):=by
  simp[findLabel,ah1 l ca _ ha hA]
 have hpass:∀ v j a w,E.V≤v→J j→Rel E (S v j) a w→cr.wp E.P (Exit.jump l (fun a' w'=>∃ m,m<μ j∧∃ v' j',E.V≤v'∧J j'∧μ j'=m∧Rel E (S v' j') a' w') (fun e a' w'=>∃ ex st',e=Ex.to ex∧DZ E ks Q ex st'∧Rel E st' a' w')) a w:=fun v j a w hv hj hrel=>by
  refine wp_mono (jk ah cr R (S v j) a w _ hr hrel (h2 v j hv hj)) ?_
  rintro e a' w' ⟨ex,st',rfl,hq,hr'⟩
  cases ex with
  | normal=>exact⟨.normal,st',rfl,hq,hr'⟩
  | exit id=>exact⟨.exit id,st',rfl,hq,hr'⟩
  | ret=>exact⟨.ret,st',rfl,hq,hr'⟩
  | goto l' =>
    obtain⟨e1,j',k1,k2,k3⟩:=hq
    obtain⟨v',hv',hc'⟩:=qp ts hts hr'
    exact⟨e1,μ j',k2,v',j',hv',k1,rfl,(k3 v').le a' w' hc'⟩
 refine atp l (fun n a w=>∃ v j,E.V≤v∧J j∧μ j=n∧Rel E (S v j) a w) hfind ?_ ?_
 ·refine wp_seq (wp_mono (jk ah ca A st a w _ ha hrel h1) ?_)
  rintro e a' w' ⟨ex,st',rfl,hq,hr'⟩
  cases ex with
  | normal =>
    obtain⟨j,k1,k3⟩:=hq
    obtain⟨v,hv,hc'⟩:=qp ts hts hr'
    refine wp_seq (wp_label (wp_mono (hpass v j a' w' hv k1 ((k3 v).le a' w' hc')) ?_))
    rintro e a2 w2 hq2
    cases e with
    | goto l' =>
      obtain⟨e1,m,_,hJm⟩:=hq2
      exact⟨e1,m,hJm⟩
    | _=>exact hq2
  | exit id=>exact⟨.exit id,st',rfl,hq,hr'⟩
  | ret=>exact⟨.ret,st',rfl,hq,hr'⟩
  | goto l'=>exact hq.elim
 ·rintro n a w ⟨v,j,hv,hj,rfl,hrel⟩
  exact wp_seq (wp_skip (hpass v j a w hv hj hrel))
def LX (E:Env) (n:Nat) (S:Nat→St) (id0:Nat) (Sx:St) (k:Nat) (ks:List KF) (Q:Ex→St→Prop):Ex→St→Prop
 | .normal,st'=>k<n∧∀ v,LS (lU [] v st') (S (k+1))
 | .exit j,st'=>j=id0∧∀ v,LS (lU [] v st') Sx
 | e,st'=>XE E e st' ks Q
section
variable {n k id0 j:Nat} {S0:Nat→St} {Sx:St} {body:MC}
theorem aHM:LX E n S0 id0 Sx k ks Q .normal st'=(k<n∧∀ v,LS (lU [] v st') (S0 (k+1))):=propext Iff.rfl
theorem aLh:LX E n S0 id0 Sx k ks Q (.exit j) st'=(j=id0∧∀ v,LS (lU [] v st') Sx):=propext Iff.rfl
theorem aMs:LX E n S0 id0 Sx k ks Q .ret st'=XE E .ret st' ks Q:=propext Iff.rfl
attribute [simp] aHM aLh aMs
theorem aU.aNI (ah:E.P.follows .mixedOrders=true) (n:Nat) (S0:Nat→St) (id0:Nat) (Sx:St) (hst:∀ v,LS (lU [] v st) (S0 0)) (hr:∀ k,k≤n→XC E body (S0 k) [] (LX E n S0 id0 Sx k ks Q)) (hx:XE E (.exit id0) Sx ks Q):aU E (.loop body) st ks Q:=by
 intro c hm a w hrel
 obtain⟨x,rfl,hm1⟩:=zk hm
 obtain⟨v0,_,hrel0⟩:=qp [] rfl hrel
 refine wp_loop_ghost (fun m a w=>∃ i,i≤n∧n-i=m∧Rel E (S0 i) a w) n ⟨0,Nat.zero_le _,rfl,(hst v0).le a w hrel0⟩ ?_
 rintro m a w ⟨i,hi,rfl,hri⟩
 refine wp_mono (jk ah x body (S0 i) a w _ hm1 hri (hr i hi)) ?_
 rintro e a' w' ⟨ex,st',rfl,hq,hr'⟩
 obtain⟨v',_,hr2⟩:=qp [] rfl hr'
 cases ex with
 | normal =>
   obtain⟨hlt,h3⟩:=hq
   exact⟨n-(i+1),by omega,i+1,hlt,rfl,(h3 v').le a' w' hr2⟩
 | exit id =>
   obtain⟨rfl,h3⟩:=hq
   exact⟨.exit id,Sx,rfl,hx,(h3 v').le a' w' hr2⟩
 | goto l=>exact⟨.goto l,st',rfl,hq,hr'⟩
 | ret=>exact⟨.ret,st',rfl,hq,hr'⟩
end
end
end Go.Proofs.YtfilonnphgnplaaGreatDoor.Pv
namespace Go.Proofs.YtfilonnphgnplaaGreatDoor.Pv
open Go Go.RowKit Go.Maps
section
variable {E:Env} {st:St} {c:Ctx} {a:Act} {w:World}
theorem vk {ops:Array Oper} {soft:Bool} {Q:Exit→Act→World→Prop} {K:St→Prop} {l2:List Oper} (hQ:∀ st a w,K st→Rel E st a w→wpList E.P ops Q l2 a w):∀ (l:List Oper) (ms:List MOp) (st:St) (a:Act) (w:World),og E.P E.nt ops soft l=some ms →
 Rel E st a w→run E ms st K→wpList E.P ops Q (l++l2) a w
 | [],ms,st,a,w,h,hr,hk=>by
   simp only[og,Option.some.injEq] at h
   subst h
   exact hQ st a w hk hr
 | o::l,ms,st,a,w,h,⟨c,hg⟩,hk=>by
   simp only[og] at h
   split at h
   ·rename_i m ms' h1 h2
    cases h
    obtain⟨N0,hN0⟩:=hg.bnd
    obtain⟨N,hVN,hN⟩ : ∃ N,E.V≤N∧∀ k,c.U k→k.2<N:=⟨max N0 E.V,Nat.le_max_right _ _,fun k hk=>Nat.lt_of_lt_of_le (hN0 k hk) (Nat.le_max_left _ _)⟩
    have hkey:¬ c.U (m.dst.getD 0,N):=fun hu=>Nat.lt_irrefl _ (hN _ hu)
    have hor:(lG E.P m N st fun _ st'=>run E ms' st' K)∨Inl E m st fun st'=>run E ms' st' K:=by
     simp only[run] at hk
     refine hk.imp (fun hk=>?_) id
     split at hk
     ·exact hk N hVN
     ·rename_i ha
      rw[aie (v':=0) (by simpa using ha)]; exact hk
    rw[List.cons_append]
    unfold wpList
    rcases hor with hs|hinl
    ·obtain⟨s1,s2⟩:=ahm hg h1 hkey hs
     split
     ·rename_i hw
      refine .inl (Runs.wp ((s1 hw).mono ?_))
      rintro u w' ⟨_,st',c',hK,hg',_⟩
      exact vk hQ l ms' st' _ w' h2 ⟨c',hg'⟩ hK
     ·rename_i hw
      obtain⟨_,st',c',hK,hg',_⟩:=s2 (by simpa using hw)
      exact vk hQ l ms' st' _ w h2 ⟨c',hg'⟩ hK
    ·obtain⟨s1,s2⟩:=avd hg h1 hinl
     split
     ·rename_i hw
      refine .inl (Runs.wp ((s1 hw).mono ?_))
      rintro u w' ⟨st',c',hK,hg'⟩
      exact vk hQ l ms' st' _ w' h2 ⟨c',hg'⟩ hK
     ·rename_i hw
      obtain⟨st',c',hK,hg'⟩:=s2 (by simpa using hw)
      exact vk hQ l ms' st' _ w h2 ⟨c',hg'⟩ hK
   ·cases h
theorem am5 {P:Program} {nt:Nat} {ops:Array Oper} {soft:Bool}:∀ {ms1 ms2:List MOp} {l:List Oper},og P nt ops soft l=some (ms1++ms2)→∃ l1 l2,l=l1++l2∧og P nt ops soft l1=some ms1∧og P nt ops soft l2=some ms2
 | [],ms2,l,h=>⟨[],l,rfl,rfl,h⟩
 | m::ms1,ms2,l,h=>by
   cases l with
   | nil=>simp[og] at h
   | cons o l =>
     simp only[og] at h
     split at h
     ·rename_i m' ms' h1 h2
      simp only[List.cons_append,Option.some.injEq,List.cons.injEq] at h
      obtain⟨rfl,rfl⟩:=h
      obtain⟨l1,l2,e,k1,k2⟩:=am5 h2
      exact⟨o::l1,l2,by rw[e]; rfl,by simp only[og,h1,k1],k2⟩
     ·cases h
theorem QG {P:Program} {nt:Nat} {ops:Array Oper} {soft:Bool} {m:MOp} {ms:List MOp} {l:List Oper} (h:og P nt ops soft l=some (m::ms)):∃ o l',l=o::l'∧aeW P nt ops soft o=some m∧og P nt ops soft l'=some ms:=by
 cases l with
 | nil=>simp[og] at h
 | cons o l =>
   simp only[og] at h
   split at h
   ·rename_i m' ms' h1 h2
    simp only[Option.some.injEq,List.cons.injEq] at h
    obtain⟨rfl,rfl⟩:=h
    exact⟨o,l,rfl,h1,h2⟩
   ·cases h
theorem avb {P:Program} {nt:Nat} {ops:Array Oper} {soft:Bool} {l:List Oper} (h:og P nt ops soft l=some []):l=[]:=by
 cases l with
 | nil=>rfl
 | cons o l =>
   simp only[og] at h
   split at h<;>cases h
theorem anw {P:Program} {nt:Nat} {c:Code} {ms:List MOp} (h:fq P nt c=some (.reg ms)):∃ id ops,c=.region id ops false∧og P nt ops (aKI P nt ops) ops.toList=some ms:=by
 cases c with
 | region i ops d =>
   simp only[fq] at h
   split at h
   ·rename_i ms' hops
    split at h
    ·split at h<;>cases h
    ·rename_i hd
     cases h
     exact⟨i,ops,by simp at hd; rw[hd],hops⟩
   ·cases h
 | seq x y=>simp only[fq] at h; split at h<;>cases h
 | cond q x y=>simp only[fq] at h; split at h<;>cases h
 | loop x=>simp[fq] at h
 | block id x=>simp[fq] at h
 | scope x=>simp[fq] at h
 | _=>simp[fq] at h
theorem adp {P:Program} {nt id:Nat} {c:Code} {m:MC} (h:fq P nt c=some (.block id m)):∃ x,c=.block id x∧fq P nt x=some m:=by
 cases c with
 | block i x =>
   simp only[fq,Option.map_eq_some_iff,MC.block.injEq] at h
   obtain⟨m',h1,rfl,rfl⟩:=h
   exact⟨x,rfl,h1⟩
 | region i ops d=>rcases abl h with ⟨_,h⟩|⟨_,_,h⟩<;>cases h
 | seq x y=>simp only[fq] at h; split at h<;>cases h
 | cond q x y=>simp only[fq] at h; split at h<;>cases h
 | loop x=>simp[fq] at h
 | scope x=>simp[fq] at h
 | _=>simp[fq] at h
theorem aJ3 {P:Program} {nt:Nat} {o:Oper} {t:TypeId} {m k x:MO} (hi:toI P nt o=some (.mset t m k x)):∃ om ok ox,o.op=.mapUpdate t om ok ox∧toO P nt 0 om=some m∧toO P nt 0 ok=some k∧toO P nt 0 ox=some x:=by
 cases ho:o.op with
 | mapUpdate t' om ok ox =>
   simp only[toI,ho] at hi
   split at hi
   ·rename_i h1 h2 h3
    simp only[Option.some.injEq,MI.mset.injEq] at hi
    obtain⟨rfl,rfl,rfl,rfl⟩:=hi
    exact⟨om,ok,ox,rfl,h1,h2,h3⟩
   ·cases hi
 | makeFunc f a b =>
   cases f<;>simp only[toI,ho] at hi
   all_goals (first|(cases hi; done)|skip)
   all_goals (repeat' split at hi)
   all_goals (first|(cases hi; done)|(simp at hi; done))
 | _ =>
   simp only[toI,ho] at hi
   repeat' split at hi
   all_goals (first|(cases hi; done)|(simp at hi; done))
theorem aLf {P:Program} {nt:Nat} {o:Oper} {t:TypeId} (hi:toI P nt o=some (.mmk t)):o.op=.makeMap t none:=by
 cases ho:o.op with
 | makeMap t' r =>
   simp only[toI,ho] at hi
   split at hi
   ·rename_i hr
    simp only[Option.some.injEq,MI.mmk.injEq] at hi
    subst hi
    cases r with
    | none=>rfl
    | some r=>cases hr
   ·cases hi
 | makeFunc f a b =>
   cases f<;>simp only[toI,ho] at hi
   all_goals (first|(cases hi; done)|skip)
   all_goals (repeat' split at hi)
   all_goals (first|(cases hi; done)|(simp at hi; done))
 | _ =>
   simp only[toI,ho] at hi
   repeat' split at hi
   all_goals (first|(cases hi; done)|(simp at hi; done))
end
structure aFP (P:Program) (tm kt et:TypeId):Prop where
 tm:P.underlying tm=some (.map kt et)
 kt:P.underlying kt=some .string
 et:P.underlying et=some (.int .i64)
def ac3 (P:Program) (kt et:TypeId) (w:World) (b n:Nat) (ks:List ByteArray):Prop :=
 ∃ es:List (Lit × DataW Unit),w.ownsMap P kt (plainElem P et) b n (.map es)∧(∀ p∈es,∃ x,p.1=Lit.string x)∧(∀ x,(∃ p∈es,p.1=Lit.string x)↔∃ s∈ks,s.data.toList=x)∧∀ s∈ks,s.size≤LIM
theorem ac3.block {P:Program} {kt et:TypeId} {w w' : World} {b n:Nat} {ks:List ByteArray} (h:ac3 P kt et w b n ks) (hb:w'.heap[b]? = w.heap[b]?):ac3 P kt et w' b n ks:=by
 obtain⟨D,⟨es,clock,h1,h2⟩,h3⟩:=h
 exact⟨D,⟨es,clock,hb.trans h1,h2⟩,h3⟩
theorem mem_insert {H:Type} (p q:Lit × DataW H):∀ l:List (Lit × DataW H),q∈DataW.insert p l↔q=p∨q∈l
 | []=>by simp[DataW.insert]
 | y::r=>by
   unfold DataW.insert
   split
   ·simp
   ·simp only[List.mem_cons,mem_insert p q r]
    constructor
    ·rintro (h|h|h)<;>simp[h]
    ·rintro (h|h|h)<;>simp[h]
theorem aFr {es:List (Lit × DataW Unit)} {s:List UInt8} {d:DataW Unit} {p:Lit × DataW Unit}:p∈ChangeMaps.putKey (.string s) d es→p=(.string s,d)∨p∈es:=fun hp=>by
 unfold ChangeMaps.putKey at hp
 rcases (mem_insert _ _ _).1 hp with h|h
 ·exact .inl h
 ·exact .inr (List.mem_filter.1 h).1
theorem aL0 (es:List (Lit × DataW Unit)) (s:List UInt8) (d:DataW Unit) (x:List UInt8):(∃ p∈ChangeMaps.putKey (.string s) d es,p.1=Lit.string x)↔x=s∨∃ p∈es,p.1=Lit.string x:=by
 constructor
 ·rintro⟨p,hp,e⟩
  rcases aFr hp with rfl|hp
  ·exact .inl (Lit.string.inj e).symm
  ·exact .inr ⟨p,hp,e⟩
 ·rintro (rfl|⟨p,hp,e⟩)
  ·exact⟨_,(mem_insert _ _ _).2 (.inl rfl),rfl⟩
  ·by_cases hk:p.1.sameKey (.string s)=true
   ·have h:=WideAt.sameKey_eq hk
    exact⟨_,(mem_insert _ _ _).2 (.inl rfl),by rw[← e,h]⟩
   ·exact⟨p,(mem_insert _ _ _).2 (.inr (List.mem_filter.2 ⟨hp,by simpa[ChangeMaps.notKey] using hk⟩)),e⟩
theorem ac3.nodup {P:Program} {kt et:TypeId} (hk:P.underlying kt=some .string) {w:World} {b n:Nat} {es:List (Lit × DataW Unit)} (h:w.ownsMap P kt (plainElem P et) b n (.map es)) (hs:∀ p∈es,∃ x,p.1=Lit.string x):(strKeys (.map es)).Nodup:=by
 obtain⟨es',e,hp,_⟩:=h.canon (string_keyed hk)
 obtain rfl:es=es':=by cases e; rfl
 show (es.map fun p=>strOf p.1).Nodup
 refine List.pairwise_map.2 ((apart_of_rising hp).imp_of_mem fun {p q} hp' hq' hne e=>hne ?_)
 obtain⟨x,hx⟩:=hs p hp'
 obtain⟨y,hy⟩:=hs q hq'
 rw[hx,hy] at e ⊢
 simpa[strOf] using e
structure aMD (P:Program) (w0:World) (F0:Nat→Prop) (b b2:Nat) (o2:Option Obj) (w1:World) (F1:Nat→Prop):Prop where
 size:w1.heap.size=b+1
 lt:b2<b
 ge:w0.heap.size≤b2
 bel:Bel w0.heap.size w0 w1
 in0:∀ x,F1 x→F0 x∨w0.heap.size≤x
 of0:∀ x,F0 x→F1 x
 lt0:∀ x,F0 x→x<w0.heap.size
 nb:¬ F1 b
 nb2:¬ F1 b2
 blk2:w1.heap[b2]? = o2
def uo (P:Program) (kt et:TypeId) (w0:World) (F0:Nat→Prop) (nt b b2:Nat) (o2:Option Obj) (n:Nat) (ks:List ByteArray) (st:St) (a:Act) (w:World):Prop :=
 ∃ w1 F1 hG,aMD P w0 F0 b b2 o2 w1 F1∧ac3 P kt et w1 b n ks∧Rel ⟨P,w1,F1,nt,[],0,hG⟩ st a w
section
variable {P:Program} {tm kt et:TypeId} {w0:World} {F0:Nat→Prop} {nt b b2:Nat} {o2:Option Obj} {n:Nat} {ks:List ByteArray} {st st' : St} {a:Act} {w:World}
theorem uo.ls (h:uo P kt et w0 F0 nt b b2 o2 n ks st a w) (hl:LS st st'):uo P kt et w0 F0 nt b b2 o2 n ks st' a w:=by
 obtain⟨w1,F1,hG,h1,h2,h3⟩:=h
 exact⟨w1,F1,hG,h1,h2,hl.le a w h3⟩
theorem uo.canon (ts:List (Nat × Nat × Nat)) (hts:zy ts=true) (h:uo P kt et w0 F0 nt b b2 o2 n ks st a w):∃ v,uo P kt et w0 F0 nt b b2 o2 n ks (lU ts v st) a w:=by
 obtain⟨w1,F1,hG,h1,h2,h3⟩:=h
 obtain⟨v,_,hr⟩:=qp ts hts h3
 exact⟨v,w1,F1,hG,h1,h2,hr⟩
theorem uo.run (ah:P.follows .mixedOrders=true) {c:Code} {m:MC} {Q:Ex→St→Prop} (hm:fq P nt c=some m.erase) (h:uo P kt et w0 F0 nt b b2 o2 n ks st a w) (hx:∀ w1 F1 hG,XC ⟨P,w1,F1,nt,[],0,hG⟩ m st [] Q) :
 c.wp P (fun e a' w'=>∃ ex st',e=Ex.to ex∧Q ex st'∧uo P kt et w0 F0 nt b b2 o2 n ks st' a' w') a w:=by
 obtain⟨w1,F1,hG,h1,h2,h3⟩:=h
 refine wp_mono (jk (E:=⟨P,w1,F1,nt,[],0,hG⟩) ah c m st a w _ hm h3 (hx w1 F1 hG)) ?_
 rintro e a' w' ⟨ex,st',rfl,hq,hr'⟩
 exact⟨ex,st',rfl,hq,w1,F1,hG,h1,h2,hr'⟩
theorem uo.at (h:uo P kt et w0 F0 nt b b2 o2 n ks st a w):ac3 P kt et w b n ks:=by
 obtain⟨w1,F1,hG,h1,h2,c,hg⟩:=h
 exact h2.block (hg.below.block b (by show b<w1.heap.size; rw[h1.size]; omega))
theorem uo.bnd (h:uo P kt et w0 F0 nt b b2 o2 n ks st a w):(∀ t,t<nt→gQ (lk t st.s)):=by
 obtain⟨w1,F1,hG,h1,h2,h3⟩:=h
 exact h3.bnd.1
theorem uo.set (hT:aFP P tm kt et) {ops:Array Oper} {soft:Bool} {o:Oper} {m k x:MO} {l:List Oper} {Q:Exit→Act→World→Prop} (hm:aeW P nt ops soft o=some ⟨none,.mset tm m k x,none,false⟩) (h:uo P kt et w0 F0 nt b b2 o2 n ks st a w)
 {s:ByteArray} {i:Int} (gm:st.get m=.raw (.map (some b))) (gk:st.get k=.str s) (gx:st.get x=.int .i64 i) (hn:n<maxLen)
 (hK:∀ w',uo P kt et w0 F0 nt b b2 o2 (n+1) (s::ks) st a w'→wpList P ops Q l a w'):wpList P ops Q (o::l) a w:=by
 obtain⟨hi,hdst,hgd⟩:=abE hm
 obtain⟨om,ok,ox,ho,t1,t2,t3⟩:=aJ3 (hi.resolve_right (by simp))
 have hg0:o.guard=none:=by
  rcases hgd with ⟨h1,_⟩|⟨j,want,t,_,_,_,h4⟩
  ·exact h1
  ·cases h4
 have hmap:=h.at
 obtain⟨w1,F1,hG,h1,h2,c,hg⟩:=h
 have r1:a.eval om=.map (some b):=by have:=hg.get (E:=⟨P,w1,F1,nt,[],0,hG⟩) t1; rw[gm] at this; exact this
 have r2:bF w c (.str s) (a.eval ok):=by have:=hg.get (E:=⟨P,w1,F1,nt,[],0,hG⟩) t2; rw[gk] at this; exact this
 have r3:bF w c (.int .i64 i) (a.eval ox):=by have:=hg.get (E:=⟨P,w1,F1,nt,[],0,hG⟩) t3; rw[gx] at this; exact this
 obtain⟨r2,r2'⟩:=r2
 obtain⟨r3,r3',r3''⟩:=r3
 obtain⟨D,hown,hstr,hkeys,hlim⟩:=hmap
 have hkey:keyOf P kt (.string s)=some (.string s.data.toList):=WideMaps.keyOf_string_mk hT.kt (by unfold LIM at r2'; unfold maxLen; omega)
 have hval:plainElem (H:=Unit) P et (.int .i64 i)=some (.lit (.int .i64 i),[]):=plainElem_int hT.et (by simp only[Lit.wf,Bool.and_eq_true,decide_eq_true_eq]; exact⟨r3',r3''⟩)
 obtain⟨w',hrun,hown',hgr⟩:=hown.update (string_keyed hT.kt) hT.tm hn hkey hval
 have hput:a.put o.dst undef=a:=by rw[← hdst]; rfl
 have hcell:∀ (cs:Array Value) (el:TypeId) (fr:Nat × Nat),w.heap[b]?≠some (.cells cs el fr):=fun cs el fr hc=>by
  obtain⟨es,clock,hb,_⟩:=hown
  rw[hb] at hc; cases hc
 have hnb:¬ c.Fz b:=fun hf=>by
  rcases (hg.fz b hf).2 with h|h
  ·exact h1.nb h
  ·have:w1.heap.size≤b:=h
   have:=h1.size
   omega
 have hnb2:¬ c.Fz b2:=fun hf=>by
  rcases (hg.fz b2 hf).2 with h|h
  ·exact h1.nb2 h
  ·have:w1.heap.size≤b2:=h
   have:=h1.lt
   have:=h1.size
   omega
 have hbw:b<w.heap.size:=by
  obtain⟨es,clock,hb,_⟩:=hown
  exact (Array.getElem?_eq_some_iff.1 hb).1
 have hsame:∀ j,j≠b→j<w.heap.size→w'.heap[j]? = w.heap[j]? := fun j hj hlt=>hgr.block j hlt (fun e=>hj (Option.some.inj e))
 have hmono:dZ c.Fz w w':=⟨hgr.size,fun j hj=>hsame j (fun e=>hnb (e ▸ hj)) (hg.fz j hj).1,fun j cs el fr hj=>by
  by_cases e:j=b
  ·subst e; exact absurd hj (hcell cs el fr)
  ·exact⟨cs,fr,(hsame j e (Array.getElem?_eq_some_iff.1 hj).1).trans hj,rfl⟩⟩
 have hown1:∀ k e ad,hk k st.h=some e→c.β k=some ad→b+1≤ad.block∧w'.heap[ad.block]? = w.heap[ad.block]? := fun k e ad he had=>by
  obtain⟨f1,f2⟩:=hg.fresh k e ad he had
  have f1' : w1.heap.size≤ad.block:=f1
  rw[h1.size] at f1'
  exact⟨f1',hsame _ (by omega) f2⟩
 have hBw:b+1≤w'.heap.size:=by have:=hgr.size; omega
 have hgn:=hg.aME (w':=w') (B:=b+1) (by show w1.heap.size≤_; rw[h1.size]; exact Nat.le_refl _) hBw hmono hown1
 have hstep:∀ j,j<b→w'.heap[j]? = w1.heap[j]? := fun j hj=>by
  rw[hsame j (by omega) (by omega)]
  exact hg.below.block j (by show j<w1.heap.size; rw[h1.size]; omega)
 refine wpList_plain hg0 fun K hKK=>?_
 unfold Oper.wp
 simp[execOp,ho,r1,r2,r3,hrun,Result.andThen]
 show K (a.put o.dst undef) w'
 rw[hput]
 refine hKK _ _ (hK w' ⟨trunc w' (b+1),fun x=>c.Fz x∧x<b+1,_,?_,?_,c,hgn⟩)
 ·refine⟨uG hBw,h1.lt,h1.ge,?_,fun x hx=>?_,fun x hx=>?_,h1.lt0,fun hx=>hnb hx.1,fun hx=>hnb2 hx.1,?_⟩
  ·have e1:=hg.below.below
   have e1' : Below w1.heap.size w1 w:=e1
   have hge:=h1.ge
   have hlt:=h1.lt
   refine Bel.of ⟨?_,?_,?_,?_,fun j hj=>?_⟩
   ·show w'.os=_
    rw[hgr.os,e1'.os,h1.bel.below.os]
   ·show w'.tape=_
    rw[hgr.tape,e1'.tape,h1.bel.below.tape]
   ·show w'.output=_
    rw[hgr.output,e1'.output,h1.bel.below.output]
   ·rw[uG hBw]; omega
   ·rw[BF _ _ (by omega),hstep j (by omega),h1.bel.block j hj]
  ·rcases (hg.fz x hx.1).2 with h|h
   ·exact h1.in0 x h
   ·have:w1.heap.size≤x:=h
    have:=hx.2
    have:=h1.size
    have:=h1.ge
    have:=h1.lt
    omega
  ·exact⟨hg.le x (h1.of0 x hx),by have:=h1.lt0 x hx; have:=h1.ge; have:=h1.lt; omega⟩
  ·rw[BF _ _ (by have:=h1.lt; omega),hstep b2 h1.lt,h1.blk2]
 ·refine⟨ChangeMaps.putKey (.string s.data.toList) (.lit (.int .i64 i)) D,?_,fun p hp=>?_,fun x=>?_,fun x hx=>?_⟩
  ·obtain⟨es,clock,hb,hrest⟩:=hown'
   exact⟨es,clock,by rw[BF _ _ (by omega)]; exact hb,hrest⟩
  ·rcases aFr hp with rfl|hp
   ·exact⟨_,rfl⟩
   ·exact hstr p hp
  ·rw[aL0,hkeys]
   simp only[List.mem_cons]
   constructor
   ·rintro (rfl|⟨s',hs',rfl⟩)
    ·exact⟨s,.inl rfl,rfl⟩
    ·exact⟨s',.inr hs',rfl⟩
   ·rintro⟨s',rfl|hs',rfl⟩
    ·exact .inl rfl
    ·exact .inr ⟨s',hs',rfl⟩
  ·rcases List.mem_cons.1 hx with rfl|hx
   ·exact r2'
   ·exact hlim x hx
end
end Go.Proofs.YtfilonnphgnplaaGreatDoor.Pv
namespace Go.Proofs.YtfilonnphgnplaaGreatDoor.Pv
open Go Go.RowKit Go.Maps
def ac9 (P:Program) (tm kt et:TypeId) (fK fS:FuncId):Prop:=callable P fK=true∧callable P fS=true∧aFP P tm kt et ∧
 ∀ (w:World) (b n:Nat) (es:List (Lit × DataW Unit)),w.ownsMap P kt (plainElem P et) b n (.map es)→es.length≤34359738368 →
   Calls P fK #[.map (some b)] w fun e w'=>∃ v,e=.returned v∧Below w.heap.size w w' ∧
    Calls P fS #[v] w' fun e2 w2=>∃ (u:Value) (ss:List (List UInt8)),e2=.returned u∧ss.Perm (strKeys (.map es))∧w2.ownsRow w'.heap.size kt 1 u ss.length ((ss.mergeSort fun x y=>decide (x≤y)).map fun x=>Value.string ⟨x.toArray⟩)∧Below w'.heap.size w' w2
theorem aFa {w w' : World} {c c' : Ctx} {b:Nat} (hb:w'.heap[b]? = w.heap[b]?):∀ {o:Nat} {xs:List PV},Qj xs=true→dW w c b o xs→dW w' c' b o xs
 | _,[],_,_=>trivial
 | o,x::xs,hl,h=>by
   simp only[Qj,Bool.and_eq_true] at hl
   obtain⟨⟨v,e,e1,h1⟩,h2⟩:=h
   exact⟨⟨v,(cell_of_heap hb o).trans e,e1,azW x v hl.1 h1⟩,aFa hb hl.2 h2⟩
def aI9 (b2 off:Nat) (o2:Option Obj) (z:List PV):Prop:=∃ (cs:Array Value) (el:TypeId) (fr:Nat × Nat),o2=some (.cells cs el fr)∧off+z.length≤cs.size∧(∀ o,o<cs.size→¬ (fr.1≤o∧o<fr.2))∧∀ (w:World) (c:Ctx),w.heap[b2]? = o2→dW w c b2 off z
section
variable {P:Program} {tm kt et:TypeId} {w0:World} {F0:Nat→Prop} {hG0:GOk P w0 F0} {nt:Nat} {a:Act} {w:World}
theorem atV {a:Act} {d t:Nat} {v:Value} (h:t≠d):(a.put (some d) v).tmps[t]? = a.tmps[t]? := by
 simp only[Act.put,Array.getElem?_setIfInBounds]
 rw[if_neg (fun e=>h e.symm)]
theorem asL {a:Act} {d:Nat} {v:Value} (h:d<a.tmps.size):(a.put (some d) v).tmps[d]? = some v:=by
 simp[Act.put,Array.getElem?_setIfInBounds,h]
theorem aF7 {ops:Array Oper} {soft:Bool} {Q:Exit→Act→World→Prop} {d1 d2 v2:Nat} {z:List PV} {x0:PV} {l:List Oper} (hF0:∀ x,F0 x→x<w0.heap.size) (hd1:d1≠2∧d1≠0) (hd2:d2≠2∧d2≠0) (hz:Qj z=true) (hz0:0<z.length) (hx0:kfV x0=true)
 (hl:og P nt ops soft l=some [⟨some d1,.mmk tm,none,false⟩,⟨some d2,.mv (.t d1),none,false⟩])
 (h:Rel ⟨P,w0,F0,nt,[],0,hG0⟩ ⟨[(2,.ptr (2,v2) z.length 0 0),(0,x0)],[((2,v2),some ⟨z.length,[z],false,true⟩)]⟩ a w)
 (hK:∀ b b2 off o2 a' w',aI9 b2 off o2 z→uo P kt et w0 F0 nt b b2 o2 0 [] ⟨[(d2,.raw (.map (some b))),(2,.raw (.pointer (some ⟨b2,off,none⟩))),(0,x0)],[]⟩ a' w'→Q .normal a' w'):wpList P ops Q l a w:=by
 obtain⟨o1,l1,rfl,m1,hl1⟩:=QG hl
 obtain⟨o2',l2,rfl,m2,hl2⟩:=QG hl1
 obtain rfl:=avb hl2
 obtain⟨c,hg⟩:=h
 obtain⟨hi1,hdst1,hgd1⟩:=abE m1
 have ho1:=aLf (hi1.resolve_right (by simp))
 have hg1:o1.guard=none:=by
  rcases hgd1 with ⟨h1,_⟩|⟨j,want,t,_,_,_,h4⟩
  ·exact h1
  ·cases h4
 have hdst1' : o1.dst=some d1:=hdst1.symm
 have hlt1:d1<nt:=by
  unfold aeW at m1
  rw[hdst1'] at m1
  simp only at m1
  split at m1
  ·cases m1
  ·rename_i hh; simpa using hh
 obtain⟨g1,g2,g3⟩:=hg.heap (2,v2) ⟨z.length,[z],false,true⟩ (by simp[hk])
 have hslot2:∀ v,a.tmps[2]? = some v→∃ ad,c.β (2,v2)=some ad∧v=.pointer (some ⟨ad.block,ad.off,none⟩):=fun v hv=>by
  have:=hg.slot 2 v hv
  simp only[lk,if_true] at this
  obtain⟨_,_,ad,h1,h2⟩:=this
  exact⟨ad,h1,by simpa using h2⟩
 have hβ:∃ ad,c.β (2,v2)=some ad:=by
  cases hb:c.β (2,v2) with
  | some ad=>exact⟨ad,rfl⟩
  | none=>rw[hb] at g3; simp at g3
 obtain⟨ad,had⟩:=hβ
 rw[had] at g3
 obtain⟨b1,⟨cs,el,fr,b3,b4,b5⟩,b6,b7⟩:=g3
 obtain⟨f1,f2⟩:=hg.fresh (2,v2) _ ad (by simp[hk]; rfl) had
 have f1' : w0.heap.size≤ad.block:=f1
 obtain⟨b,hb⟩ : ∃ b,b=w.heap.size:=⟨_,rfl⟩
 obtain⟨W,hW⟩ : ∃ W,W=w.alloc (.map #[] 0):=⟨_,rfl⟩
 have hWs:W.heap.size=b+1:=by rw[hW,hb]; simp
 have hWb:∀ j,j<b→W.heap[j]? = w.heap[j]? := fun j hj=>by rw[hW]; exact Below.heap_alloc _ _ _ (by omega)
 have hmono:dZ c.Fz w W:=by rw[hW]; exact arh (fun j hj=>(hg.fz j hj).1) _
 have hblk:aI9 ad.block ad.off (some (.cells cs el fr)) z:=by
  refine⟨cs,el,fr,rfl,by simpa using b4,b5,fun w' c' hw'=>?_⟩
  have h0:dW w c ad.block ad.off z:=by
   have:=b6
   simp only[if_true] at this
   exact this.2.1
  exact aFa (by rw[hw',b3]) hz h0
 have hnF:¬ c.Fz ad.block:=fun hf=>by simpa using b7.1 hf
 have hbel:Bel w0.heap.size w0 W:=by
  have h1:Bel w0.heap.size w0 w:=hg.below
  have h2:=hg.below.size
  have h2' : w0.heap.size≤w.heap.size:=h2
  refine Bel.of (h1.below.trans ?_)
  rw[hW]
  exact (Below.refl _ w).alloc h2' _
 refine wpList_plain hg1 fun K1 hK1=>?_
 unfold Oper.wp
 simp[execOp,ho1,run_makeMap,Result.andThen]
 show K1 (a.put o1.dst (.map (some w.heap.size))) (w.alloc (.map #[] 0))
 rw[hdst1',← hW,← hb]
 refine hK1 _ _ ?_
 have htr:trunc W (b+1)=trunc W (b+1):=rfl
 have hgok:GOk P (trunc W (b+1)) (fun x=>c.Fz x∧x<b+1):=by
  have hBB:w0.heap.size≤b+1:=by have:=hbel.size; omega
  exact hg.gok (w':=W) (B:=b+1) hBB (by omega) hmono
 have hslots:∀ t v,(a.put (some d1) (.map (some b))).tmps[t]? = some v→bF W (VG c.Fz) (lk t [(d1,PV.raw (.map (some b))),(2,.raw (.pointer (some ⟨ad.block,ad.off,none⟩))),(0,x0)]) v:=fun t v hv=>by
  simp only[lk]
  by_cases e1:t=d1
  ·rw[if_pos e1]
   subst e1
   rw[asL (by rw[hg.size]; exact hlt1)] at hv
   exact (Option.some.inj hv).symm
  ·rw[if_neg e1]
   rw[atV e1] at hv
   by_cases e2:t=2
   ·rw[if_pos e2]
    subst e2
    obtain⟨ad',h1,h2⟩:=hslot2 v hv
    rw[had] at h1
    obtain rfl:=Option.some.inj h1
    exact h2
   ·rw[if_neg e2]
    by_cases e3:t=0
    ·rw[if_pos e3]
     subst e3
     have:=hg.slot 0 v hv
     simp only[lk] at this
     have h2:=agW x0 v hx0 (by simpa using this)
     exact bF.mono x0 v (c:=c.d) (c':=VG c.Fz) hmono ⟨fun _ h=>h.elim,fun _ h=>h.elim,fun _ h=>h.elim,fun _ h=>h⟩ h2
    ·rw[if_neg e3]; trivial
 have hgood:Good ⟨P,trunc W (b+1),fun x=>c.Fz x∧x<b+1,nt,[],0,hgok⟩ ⟨[(d1,.raw (.map (some b))),(2,.raw (.pointer (some ⟨ad.block,ad.off,none⟩))),(0,x0)],[]⟩ (VG c.Fz) (a.put (some d1) (.map (some b))) W :=
  {defers:=hg.defers
   size:=by rw[show (a.put (some d1) (.map (some b))).tmps.size=a.tmps.size by simp[Act.put]]; exact hg.size
   slot:=hslots
   heap:=fun k e he=>by simp[hk] at he
   fresh:=fun k e ad he _=>by simp[hk] at he
   apart:=fun k k' e e' ad ad' he _ _ _ _=>by simp[hk] at he
   fz:=fun x hx=>⟨Nat.lt_of_lt_of_le (hg.fz x hx).1 hmono.size,by
    rcases Nat.lt_or_ge x (b+1) with h|h
    ·exact .inl ⟨hx,h⟩
    ·right; show (trunc W (b+1)).heap.size≤x; rw[uG (by omega)]; exact h⟩
   le:=fun x hx=>hx.1
   bnd:=⟨0,fun k hk=>hk.elim⟩
   below:=by show Bel (trunc W (b+1)).heap.size (trunc W (b+1)) W; rw[uG (by omega)]; exact amR W (b+1) (by omega)
   ghost:=fun p hp=>by cases hp }
 have henv:aMD P w0 F0 b ad.block (some (.cells cs el fr)) (trunc W (b+1)) (fun x=>c.Fz x∧x<b+1):=by
  refine⟨uG (by omega),by omega,f1',?_,fun x hx=>?_,fun x hx=>?_,hF0,fun hx=>?_,fun hx=>hnF hx.1,?_⟩
  ·refine Bel.of ⟨hbel.below.os,hbel.below.tape,hbel.below.output,?_,fun j hj=>?_⟩
   ·rw[uG (by omega)]; omega
   ·rw[BF _ _ (by omega)]; exact hbel.block j hj
  ·rcases (hg.fz x hx.1).2 with h|h
   ·exact .inl h
   ·exact .inr h
  ·exact⟨hg.le x hx,by have:=hF0 x hx; omega⟩
  ·have:=(hg.fz b hx.1).1; omega
  ·rw[BF _ _ (by omega),hWb _ (by omega)]; exact b3
 have hmap:ac3 P kt et (trunc W (b+1)) b 0 []:=by
  refine ac3.block (w:=W) ⟨[],?_,by simp,by simp,by simp⟩ (BF _ _ (by omega))
  rw[hW,hb]
  exact World.ownsMap_made w P kt (plainElem P et)
 have hrel:Rel ⟨P,trunc W (b+1),fun x=>c.Fz x∧x<b+1,nt,[],0,hgok⟩ _ _ _:=⟨_,hgood⟩
 have:=vk (E:=⟨P,trunc W (b+1),fun x=>c.Fz x∧x<b+1,nt,[],0,hgok⟩) (ops:=ops) (soft:=soft) (Q:=Q) (l2:=[]) (K:=fun st'=>st'=⟨[(d2,.raw (.map (some b))),(d1,.raw (.map (some b))),(2,.raw (.pointer (some ⟨ad.block,ad.off,none⟩))),(0,x0)],[]⟩)
  (fun st' a' w' hst hr'=>by
   subst hst
   refine hK b ad.block ad.off _ a' w' hblk ⟨_,_,hgok,henv,hmap,LS.le (st:=⟨[(d2,.raw (.map (some b))),(d1,.raw (.map (some b))),(2,.raw (.pointer (some ⟨ad.block,ad.off,none⟩))),(0,x0)],[]⟩) ?_ a' w' hr'⟩
   rw[aKJ]
   refine⟨?_,by trivial⟩
   by_cases e:d2=d1
   ·subst e; simp[ajx,leV,lk,hd1.1,hd1.2,hd2.1,hd2.2,Ne.symm hd1.1,Ne.symm hd1.2]
    exact anr _ _
   ·simp[ajx,leV,lk,hd1.1,hd1.2,hd2.1,hd2.2,Ne.symm hd1.1,Ne.symm hd1.2,Ne.symm hd2.1,Ne.symm hd2.2]
    exact anr _ _) [o2'] _ _ _ _ hl1 hrel (by
   show XR _ [⟨some d2,.mv (.t d1),none,false⟩] _ [] (fun _ st'=>st'=_)
   simp)
 simpa using this
theorem aNo {P:Program} {nt:Nat} {t:TypeId} {x:Operand} {n:Nat} (h:toO P nt t x=some (.t n)):x=.tmp n∧n<nt:=by
 cases x with
 | tmp m =>
   simp only[toO] at h
   split at h
   ·rename_i hm
    cases h
    exact⟨rfl,hm⟩
   ·cases h
 | const v =>
   simp only[toO,Option.map_eq_some_iff] at h
   obtain⟨y,_,h⟩:=h
   cases h
 | func f=>simp[toO] at h
 | global g =>
   simp only[toO,Option.map_eq_some_iff] at h
   obtain⟨y,_,h⟩:=h
   cases h
theorem aBK {P:Program} {nt:Nat} {ts:List TypeId} {xs:List Operand} {m:MO} (h:CU P nt ts xs=some [m]):∃ x,xs=[x]∧toO P nt (ts.headD 0) x=some m:=by
 match xs,h with
 | [],h=>simp[CU] at h
 | [x],h =>
   simp only[CU] at h
   split at h
   ·rename_i y ys h1 h2
    simp only[Option.some.injEq,List.cons.injEq] at h
    rw[← h.1]
    exact⟨x,rfl,h1⟩
   ·cases h
 | x::y::r,h =>
   unfold CU at h
   split at h
   ·rename_i y' ys h1 h2
    simp only[Option.some.injEq,List.cons.injEq] at h
    obtain⟨_,rfl⟩:=h
    unfold CU at h2
    split at h2<;>cases h2
   ·cases h
theorem avp {α:Type} [DecidableEq α]:∀ {l m:List α},l.Nodup→(∀ x∈l,x∈m)→l.length≤m.length
 | [],_,_,_=>by simp
 | x::l,m,hn,hs=>by
   rw[List.nodup_cons] at hn
   have hx:=hs x (by simp)
   have:=avp (l:=l) (m:=m.erase x) hn.2 (fun y hy=>(List.mem_erase_of_ne (fun e=>hn.1 (by rw[← e]; exact hy))).2 (hs y (by simp[hy])))
   rw[List.length_erase_of_mem hx] at this
   have:0<m.length:=List.length_pos_of_mem hx
   simp; omega
theorem axQ {ss:List (List UInt8)} (h:ss.Nodup):(ss.mergeSort fun x y=>decide (x≤y)).Pairwise (· < ·):=by
 have h1:=List.pairwise_mergeSort (le:=fun x y:List UInt8=>decide (x≤y)) (fun a b c h k=>by simp only[decide_eq_true_eq] at *; exact List.le_trans h k) (fun a b=>by simp only[Bool.or_eq_true,decide_eq_true_eq]; exact List.le_total a b) ss
 have h2:(ss.mergeSort fun x y=>decide (x≤y)).Nodup:=(List.mergeSort_perm ss _).nodup_iff.2 h
 refine (List.pairwise_and_iff.2 ⟨h1,h2⟩ : List.Pairwise _ _).imp ?_
 rintro a b ⟨h1,h2⟩
 rcases Classical.em (a<b) with k|k
 ·exact k
 ·exact absurd (List.le_antisymm (by simpa using h1) (List.not_lt.1 k)) h2
theorem av3 {w w' : World} {b n:Nat} {D:DataW Unit} {R:Value→Option (DataW Unit × List MemPlace)} (h:w.ownsMap P kt R b n D) (hb:w'.heap[b]? = w.heap[b]?):w'.ownsMap P kt R b n D:=by
 obtain⟨es,clock,h1,h2⟩:=h
 exact⟨es,clock,hb.trans h1,h2⟩
theorem aJG {fK fS:FuncId} (hS:ac9 P tm kt et fK fS) {ops:Array Oper} {soft:Bool} {Q:Exit→Act→World→Prop} {z:List PV} {x0 x4:PV} {l:List Oper} {ms:List MOp} {b b2 off n:Nat} {o2:Option Obj} {ks:List ByteArray} {NK:List (List UInt8)}
 (hz0:0<z.length) (hx0:kfV x0=true) (hx4:kfV x4=true) (hB2:aI9 b2 off o2 z) (hNK:∀ s∈ks,s.data.toList∈NK) (hNl:NK.length≤34359738368)
 (hl:og P nt ops soft l=some (⟨some 44,.mv (.t 3),none,false⟩::⟨some 45,.call fK [.t 44],none,false⟩::⟨some 46,.call fS [.t 45],none,false⟩::ms))
 (h:uo P kt et w0 F0 nt b b2 o2 n ks ⟨[(4,x4),(3,.raw (.map (some b))),(2,.raw (.pointer (some ⟨b2,off,none⟩))),(0,x0)],[]⟩ a w)
 (hK:∀ (ns:List ByteArray) (N:Nat) (l' : List Oper) (a' : Act) (w' : World),og P nt ops soft l'=some ms→ns.Pairwise (fun x y=>x.data.toList<y.data.toList)→(∀ s,s∈ns↔s∈ks) →
  Rel ⟨P,w0,F0,nt,[],0,hG0⟩ ⟨[(46,.vec 1 false (ns.map Jd)),(4,x4),(2,.ptr (2,N) z.length 0 0),(0,x0)],[((2,N),some ⟨z.length,[z],false,true⟩)]⟩ a' w'→wpList P ops Q l' a' w'):wpList P ops Q l a w:=by
 obtain⟨hcK,hcS,hT,hlib⟩:=hS
 obtain⟨q1,l1,rfl,m1,hl1⟩:=QG hl
 obtain⟨q2,l2,rfl,m2,hl2⟩:=QG hl1
 obtain⟨q3,l3,rfl,m3,hl3⟩:=QG hl2
 obtain⟨w1,F1,hG,henv,hmap,hr⟩:=h
 obtain⟨es,hown1,hstr,hkeys,hlim⟩:=hmap
 have hlt:∀ {o:Oper} {i:MI} {d:Nat},aeW P nt ops soft o=some ⟨some d,i,none,false⟩→d<nt∧o.dst=some d∧o.guard=none∧(toI P nt o=some i∨i=.bad):=fun {o i d} hm=>by
  obtain⟨h1,h2,h3⟩:=abE hm
  refine⟨?_,h2.symm,?_,h1⟩
  ·unfold aeW at hm
   rw[← h2] at hm
   simp only at hm
   split at hm
   ·cases hm
   ·rename_i hh; simpa using hh
  ·rcases h3 with ⟨h4,_⟩|⟨j,want,t,_,_,_,h5⟩
   ·exact h4
   ·cases h5
 refine vk (E:=⟨P,w1,F1,nt,[],0,hG⟩) (ops:=ops) (soft:=soft) (Q:=Q) (l2:=q2::q3::l3) (K:=fun st'=>st'=⟨[(44,.raw (.map (some b))),(4,x4),(3,.raw (.map (some b))),(2,.raw (.pointer (some ⟨b2,off,none⟩))),(0,x0)],[]⟩) ?_ [q1] [⟨some 44,.mv (.t 3),none,false⟩] _ a w (by simp only[og,m1]) hr (by
  show XR _ [⟨some 44,.mv (.t 3),none,false⟩] _ [] (fun _ st'=>st'=_)
  simp)
 rintro st1 a w rfl ⟨c,hg⟩
 have hwb:w.heap[b]? = w1.heap[b]? := hg.below.block b (by show b<w1.heap.size; rw[henv.size]; omega)
 have hown:=av3 hown1 hwb
 have hnd:=ac3.nodup hT.kt hown hstr
 have hmem:∀ x,x∈strKeys (.map es)↔∃ s∈ks,s.data.toList=x:=fun x=>by
  rw[← hkeys x]
  show x∈es.map (fun p=>strOf p.1)↔_
  simp only[List.mem_map]
  constructor
  ·rintro⟨p,hp,rfl⟩
   obtain⟨y,hy⟩:=hstr p hp
   exact⟨p,hp,by rw[hy]; rfl⟩
  ·rintro⟨p,hp,e⟩
   exact⟨p,hp,by rw[e]; rfl⟩
 have hel:es.length≤34359738368:=by
  have h1:=avp hnd (m:=NK) (fun x hx=>by
   obtain⟨s,hs,rfl⟩:=(hmem x).1 hx
   exact hNK s hs)
  have h2:(strKeys (.map es)).length=es.length:=by show (es.map _).length=_; simp
  omega
 obtain⟨lt2,d2,g2,i2⟩:=hlt m2
 obtain⟨cl,ho,hcl,hcc,hargs⟩:=ahn (E:=⟨P,w1,F1,nt,[],0,hG⟩) (i2.resolve_right (by simp))
 obtain⟨y,hy,ty⟩:=aBK hargs
 have ey:a.eval y=.map (some b):=by
  have:=hg.get (E:=⟨P,w1,F1,nt,[],0,hG⟩) ty
  simpa[St.get,lk,bF] using this
 have hrun2:(execOp a.eval q2).run P w=.ok (.enter fK #[.map (some b)]) w:=by
  rw[aaU ho hcl (a:=#[]) (b:=#[]) rfl hcK]
  congr 2
  apply Array.ext'
  simp[hy,ey]
 refine wpList_plain g2 fun K2 hK2=>Runs.wp (.inr ⟨fK,#[.map (some b)],hrun2,Calls.mono (hlib w b n es hown hel) ?_⟩)
 rintro e w2 ⟨v,rfl,hb1,hcall3⟩
 refine⟨v,rfl,hK2 _ _ ?_⟩
 rw[d2]
 obtain⟨lt3,d3,g3,i3⟩:=hlt m3
 obtain⟨cl3,ho3,hcl3,hcc3,hargs3⟩:=ahn (E:=⟨P,w1,F1,nt,[],0,hG⟩) (i3.resolve_right (by simp))
 obtain⟨y3,hy3,ty3⟩:=aBK hargs3
 obtain⟨rfl,_⟩:=aNo ty3
 have hsz:a.tmps.size=nt:=hg.size
 have ey3:(a.put (some 45) v).eval (.tmp 45)=v:=by
  have:=asL (a:=a) (d:=45) (v:=v) (by rw[hsz]; exact lt2)
  simp[Act.eval,Array.getElem!_eq_getD,Array.getD_eq_getD_getElem?,this]
 have hrun3:(execOp (a.put (some 45) v).eval q3).run P w2=.ok (.enter fS #[v]) w2:=by
  rw[aaU ho3 hcl3 (a:=#[]) (b:=#[]) rfl hcS]
  congr 2
  apply Array.ext'
  simp[hy3,ey3]
 refine wpList_plain g3 fun K3 hK3=>Runs.wp (.inr ⟨fS,#[v],hrun3,Calls.mono hcall3 ?_⟩)
 rintro e w3 ⟨u,ss,rfl,hperm,hrow,hb2⟩
 refine⟨u,rfl,hK3 _ _ ?_⟩
 rw[d3]
 have hssn:ss.Nodup:=hperm.nodup_iff.2 hnd
 have hssm:∀ x,x∈ss↔∃ s∈ks,s.data.toList=x:=fun x=>by rw[hperm.mem_iff,hmem]
 obtain⟨zs,hzs⟩ : ∃ zs,zs=ss.mergeSort fun x y=>decide (x≤y):=⟨_,rfl⟩
 have hzm:∀ x,x∈zs↔x∈ss:=fun x=>by rw[hzs]; exact (List.mergeSort_perm ss _).mem_iff
 have hzl:zs.length=ss.length:=by rw[hzs]; exact (List.mergeSort_perm ss _).length_eq
 rw[← hzs] at hrow
 obtain⟨ns,hns⟩ : ∃ ns:List ByteArray,ns=zs.map fun x=>⟨x.toArray⟩:=⟨_,rfl⟩
 have hnl:ns.length=ss.length:=by rw[hns]; simp[hzl]
 have hssl:ss.length≤34359738368:=by
  have:(strKeys (.map es)).length=es.length:=by show (es.map _).length=_; simp
  rw[hperm.length_eq,this]; exact hel
 have hnsm:∀ s,s∈ns↔s∈ks:=fun s=>by
  rw[hns,List.mem_map]
  constructor
  ·rintro⟨x,hx,rfl⟩
   obtain⟨s',h1,h2⟩:=(hssm x).1 ((hzm x).1 hx)
   have:s'=⟨x.toArray⟩:=by rw[← h2]
   rw[← this]; exact h1
  ·intro hs
   exact⟨s.data.toList,(hzm _).2 ((hssm _).2 ⟨s,hs,rfl⟩),by simp⟩
 refine hK ns 0 l3 _ w3 hl3 ?_ hnsm ?_
 ·rw[hns,List.pairwise_map,hzs]
  exact (axQ hssn).imp (by intro a b h; simpa using h)
 have hs1:w.heap.size≤w2.heap.size:=hb1.size
 have hs2:w2.heap.size≤w3.heap.size:=hb2.size
 have hbl:Below w.heap.size w w3:=hb1.trans (hb2.mono hs1)
 have hw1w:Bel w1.heap.size w1 w:=hg.below
 have hbw:b+1≤w.heap.size:=by have:=hw1w.size; rw[henv.size] at this; exact this
 have hb2lt:=henv.lt
 have hge:=henv.ge
 have hFz:∀ x,c.Fz x→x<w.heap.size∧(F1 x∨b+1≤x):=fun x hx=>by
  obtain⟨h1,h2⟩:=hg.fz x hx
  refine⟨h1,h2.imp id fun h=>?_⟩
  have:w1.heap.size≤x:=h
  rw[henv.size] at this; exact this
 have hnb2:¬ c.Fz b2:=fun hf=>by
  rcases (hFz b2 hf).2 with h|h
  ·exact henv.nb2 h
  ·omega
 have hmono:dZ c.d.Fz w w3:=⟨by omega,fun x hx=>hbl.block x (hFz x hx).1,fun x cs el fr hx=>⟨cs,fr,(hbl.block x (Array.getElem?_eq_some_iff.1 hx).1).trans hx,rfl⟩⟩
 have ho2:w3.heap[b2]? = o2:=by
  rw[hbl.block b2 (by omega),hw1w.block b2 (by rw[henv.size]; omega),henv.blk2]
 obtain⟨cs,el,fr,o1,o2',o3,o4⟩:=hB2
 obtain⟨c3,hc3⟩ : ∃ c3:Ctx,c3=⟨fun _=>some ⟨b2,off,none⟩,fun _=>z.length,fun k=>k=(2,0),fun x=>c.Fz x∨(w.heap.size≤x∧x<w3.heap.size)⟩:=⟨_,rfl⟩
 have hle:c.d.Le c3:=by rw[hc3]; exact⟨fun _ h=>h.elim,fun _ h=>h.elim,fun _ h=>h.elim,fun _ h=>.inl h⟩
 have old:∀ (x:PV) (v' : Value),kfV x=true→bF w c x v'→bF w3 c3 x v':=fun x v' hx hv=>bF.mono x v' hmono hle (agW x v' hx hv)
 have hsz2:((a.put (some 45) v).put (some 46) u).tmps.size=nt:=by simp[Act.put,hsz]
 have hu:bF w3 c3 (.vec 1 false (ns.map Jd)) u:=by
  obtain⟨r1,r2⟩:=hrow
  rcases r2 with ⟨rfl,r2⟩|⟨g,cap,cur,rfl,r2,r3,r4,r5,r6,r7⟩
  ·have:ns=[]:=List.length_eq_zero_iff.1 (by omega)
   rw[this]
   exact⟨none,0,rfl,by simp,by omega,by simp[LIM],by simp,.inl rfl⟩
  ·refine⟨some ⟨g,0,none⟩,cap,by simp[hnl],by simp[hnl]; exact r4,by unfold maxLen at r5; omega,by simp only[List.length_map,hnl,LIM]; omega,by simp,.inr ⟨⟨g,0,none⟩,rfl,rfl,?_,?_⟩⟩
   ·rw[hc3]
    have hgl:g<w3.heap.size:=(Array.getElem?_eq_some_iff.1 r3).1
    exact .inr ⟨by show w.heap.size≤g; omega,hgl⟩
   ·refine UH fun j hj=>⟨?_,?_⟩
    ·have hj1:j<zs.length:=by rw[hzl,← hnl]; exact hj
     have e1:(cur.toList.take (ss.length*1))[j]? = some (Value.string ns[j]):=by
      rw[r7,List.getElem?_map,List.getElem?_eq_getElem hj1]
      simp[hns]
     rw[List.getElem?_take_of_lt (by omega),Array.getElem?_toList] at e1
     simp only[World.cell?,r3,Nat.zero_add]
     simpa using e1
    ·exact hlim _ ((hnsm _).1 (List.getElem_mem hj))
 refine⟨c3,?_⟩
 refine
  {defers:=hg.defers
   size:=hsz2
   slot:=fun t v' hv=>?_
   heap:=fun k e he=>?_
   fresh:=fun k e ad he had=>?_
   apart:=fun k k' e e' ad ad' he he' _ _ hne=>?_
   fz:=fun x hx=>?_
   le:=fun x hx=>?_
   bnd:=⟨1,fun k hk=>by rw[hc3] at hk; rw[show k=(2,0) from hk]; simp⟩
   below:=?_
   ghost:=fun p hp=>by cases hp }
 ·simp only[lk]
  by_cases e1:t=46
  ·rw[if_pos e1]
   subst e1
   rw[asL (by simp[Act.put,hsz]; exact lt3)] at hv
   rw[← Option.some.inj hv]; exact hu
  rw[if_neg e1]
  rw[atV e1] at hv
  by_cases e0:t=45
  ·subst e0; simp[bF]
  rw[atV e0] at hv
  have hs:=hg.slot t v' hv
  simp only[lk] at hs
  by_cases e44:t=44
  ·subst e44; simp[bF]
  rw[if_neg e44] at hs
  by_cases e4:t=4
  ·rw[if_pos e4] at hs ⊢; exact old x4 v' hx4 hs
  rw[if_neg e4] at hs ⊢
  by_cases e3:t=3
  ·subst e3; simp[bF]
  rw[if_neg e3] at hs
  by_cases e2:t=2
  ·rw[if_pos e2] at hs ⊢
   have hs' : v'=.pointer (some ⟨b2,off,none⟩):=hs
   rw[hs',hc3]
   exact⟨rfl,rfl,⟨b2,off,none⟩,rfl,by simp⟩
  rw[if_neg e2] at hs ⊢
  by_cases e0' : t=0
  ·rw[if_pos e0'] at hs ⊢; exact old x0 v' hx0 hs
  ·rw[if_neg e0']; trivial
 ·simp only[hk] at he
  split at he
  ·rename_i hkk
   cases he
   rw[hc3]
   refine⟨hkk,rfl,?_⟩
   refine⟨rfl,⟨cs,el,fr,by rw[ho2,o1],by simpa using o2',o3⟩,⟨rfl,o4 w3 _ ho2,trivial⟩,?_⟩
   simp only[Bool.false_eq_true,iff_false]
   rintro (h|h)
   ·exact hnb2 h
   ·have:w.heap.size≤b2:=h.1
    omega
  ·cases he
 ·rw[hc3] at had
  obtain rfl:=Option.some.inj had
  exact⟨hge,by show b2<w3.heap.size; omega⟩
 ·simp only[hk] at he he'
  split at he
  ·split at he'
   ·rename_i h1 h2
    exact absurd (h1.trans h2.symm) hne
   ·cases he'
  ·cases he
 ·rw[hc3] at hx
  rcases hx with hx|hx
  ·obtain⟨h1,h2⟩:=hFz x hx
   refine⟨by omega,?_⟩
   rcases h2 with h2|h2
   ·exact henv.in0 x h2
   ·exact .inr (by show w0.heap.size≤x; omega)
  ·exact⟨hx.2,.inr (by show w0.heap.size≤x; have:=hx.1; omega)⟩
 ·rw[hc3]
  exact .inl (hg.le x (henv.of0 x hx))
 ·show Bel w0.heap.size w0 w3
  exact (henv.bel.trans (hw1w.mono (by rw[henv.size]; omega))).trans (Bel.of (hbl.mono (by omega)))
end
end Go.Proofs.YtfilonnphgnplaaGreatDoor.Pv
namespace Go.Tidy
abbrev S:=ByteArray
structure Span where
 low:S
 high:S
 deriving Inhabited
mutual
inductive Ty where
 | mk (all null fls tru:Bool) (nums:List Span) (any:Bool) (texts:List S) (arrays:List Arr) (objects:List Ob)
inductive Arr where
 | mk (item:Ty) (min max:Int)
inductive Ob where
 | mk (names:List S) (fields:List Ty) (must:List Bool) (rest:Ty)
end
namespace Ty
def all:Ty→Bool|.mk a _ _ _ _ _ _ _ _=>a
def null:Ty→Bool|.mk _ a _ _ _ _ _ _ _=>a
def fls:Ty→Bool|.mk _ _ a _ _ _ _ _ _=>a
def tru:Ty→Bool|.mk _ _ _ a _ _ _ _ _=>a
def nums:Ty→List Span|.mk _ _ _ _ a _ _ _ _=>a
def any:Ty→Bool|.mk _ _ _ _ _ a _ _ _=>a
def texts:Ty→List S|.mk _ _ _ _ _ _ a _ _=>a
def arrays:Ty→List Arr|.mk _ _ _ _ _ _ _ a _=>a
def objects:Ty→List Ob|.mk _ _ _ _ _ _ _ _ a=>a
end Ty
namespace Arr
def item:Arr→Ty|.mk a _ _=>a
def min:Arr→Int|.mk _ a _=>a
def max:Arr→Int|.mk _ _ a=>a
end Arr
namespace Ob
def names:Ob→List S|.mk a _ _ _=>a
def fields:Ob→List Ty|.mk _ a _ _=>a
def must:Ob→List Bool|.mk _ _ a _=>a
def rest:Ob→Ty|.mk _ _ _ a=>a
end Ob
def d9:Ty:=.mk false false false false [] false [] [] []
def dn:Ty:=.mk true false false false [] false [] [] []
instance:Inhabited Ty:=⟨d9⟩
instance:Inhabited Arr:=⟨.mk d9 0 0⟩
instance:Inhabited Ob:=⟨.mk [] [] [] d9⟩
section
variable (a b c d:Bool) (ns:List Span) (e:Bool) (ts:List S) (as:List Arr) (os:List Ob) (t:Ty) (lo hi:Int) (nm:List S) (fs:List Ty) (ms:List Bool)
@[simp] theorem Ty.all_mk:(Ty.mk a b c d ns e ts as os).all=a:=rfl
@[simp] theorem Ty.alc:(Ty.mk a b c d ns e ts as os).null=b:=rfl
@[simp] theorem Ty.apV:(Ty.mk a b c d ns e ts as os).fls=c:=rfl
@[simp] theorem Ty.aqI:(Ty.mk a b c d ns e ts as os).tru=d:=rfl
@[simp] theorem Ty.adB:(Ty.mk a b c d ns e ts as os).nums=ns:=rfl
@[simp] theorem Ty.any_mk:(Ty.mk a b c d ns e ts as os).any=e:=rfl
@[simp] theorem Ty.rU:(Ty.mk a b c d ns e ts as os).texts=ts:=rfl
@[simp] theorem Ty.sw:(Ty.mk a b c d ns e ts as os).arrays=as:=rfl
@[simp] theorem Ty.qz:(Ty.mk a b c d ns e ts as os).objects=os:=rfl
@[simp] theorem Arr.QB:(Arr.mk t lo hi).item=t:=rfl
@[simp] theorem Arr.aBH:(Arr.mk t lo hi).min=lo:=rfl
@[simp] theorem Arr.ape:(Arr.mk t lo hi).max=hi:=rfl
@[simp] theorem Ob.aeh:(Ob.mk nm fs ms t).names=nm:=rfl
@[simp] theorem Ob.qL:(Ob.mk nm fs ms t).fields=fs:=rfl
@[simp] theorem Ob.VW:(Ob.mk nm fs ms t).must=ms:=rfl
@[simp] theorem Ob.adF:(Ob.mk nm fs ms t).rest=t:=rfl
end
theorem Ty.eta (t:Ty):.mk t.all t.null t.fls t.tru t.nums t.any t.texts t.arrays t.objects=t:=by cases t; rfl
theorem Arr.eta (t:Arr):.mk t.item t.min t.max=t:=by cases t; rfl
theorem Ob.eta (t:Ob):.mk t.names t.fields t.must t.rest=t:=by cases t; rfl
def sLt (a b:S):Bool:=Op.bytesLess a.data.toList b.data.toList
def sEq (a b:S):Bool:=a.data.toList == b.data.toList
def kR (a b:S):Ordering:=if sLt a b then .lt else if sEq a b then .eq else .gt
def fU (a:S):Bool:=a.data.toList.isEmpty
def neg (a:S):Bool:=a.data.toList.head? == some 45
def qc (a:S):List UInt8:=if neg a then a.data.toList.tail else a.data.toList
def zO (c:UInt8):Bool:=48≤c&&c≤57
def vG (a:S):Bool:=(qc a).all zO&&!(qc a).isEmpty&&((qc a).head? != some 48||a.data.toList == [48])
def aFU (x y:List UInt8):Ordering:=if Op.bytesLess x y then .lt else if x == y then .eq else .gt
def qG (x y:List UInt8):Ordering:=(compare x.length y.length).then (aFU x y)
def fQ (a b:S):Ordering:=match neg a,neg b with
 | true,true=>qG (qc b) (qc a)
 | true,false=>.lt
 | false,true=>.gt
 | false,false=>qG (qc a) (qc b)
def ku (a b:Bool):Ordering:=if a == b then .eq else if b then .lt else .gt
def l7 (o:Ordering) (a b:S):Ordering:=if sEq a b then .eq else if fU a then o else if fU b then o.swap else fQ a b
def dx {α:Type} (f:α→α→Ordering):List α→List α→Ordering
 | [],[]=>.eq
 | [],_::_=>.lt
 | _::_,[]=>.gt
 | a::l,b::m=>(f a b).then (dx f l m)
def nk (a b:Span):Ordering:=(l7 .lt a.low b.low).then (l7 .gt a.high b.high)
def su (a b:Int):Ordering:=if a<0 then (if b<0 then .eq else .gt) else if b<0 then .lt else compare a b
mutual
def kU:Ty→Ty→Ordering
 | .mk a b c d ns e ts as os,.mk a' b' c' d' ns' e' ts' as' os' =>
   (ku a a').then ((ku b b').then ((ku c c').then ((ku d d').then ((dx nk ns ns').then ((ku e e').then ((dx kR ts ts').then ((pQ as as').then (oU os os'))))))))
def wU:Arr→Arr→Ordering
 | .mk t lo hi,.mk t' lo' hi'=>(compare lo lo').then ((su hi hi').then (kU t t'))
def mg:Ob→Ob→Ordering
 | .mk ns fs ms r,.mk ns' fs' ms' r'=>(dx kR ns ns').then ((dx ku ms ms').then ((qb fs fs').then (kU r r')))
def pQ:List Arr→List Arr→Ordering
 | [],[]=>.eq
 | [],_::_=>.lt
 | _::_,[]=>.gt
 | a::l,b::m=>(wU a b).then (pQ l m)
def oU:List Ob→List Ob→Ordering
 | [],[]=>.eq
 | [],_::_=>.lt
 | _::_,[]=>.gt
 | a::l,b::m=>(mg a b).then (oU l m)
def qb:List Ty→List Ty→Ordering
 | [],[]=>.eq
 | [],_::_=>.lt
 | _::_,[]=>.gt
 | a::l,b::m=>(kU a b).then (qb l m)
end
theorem aAL:∀ l m:List Arr,pQ l m=dx wU l m
 | [],[]=>by simp[pQ,dx]
 | [],_::_=>by simp[pQ,dx]
 | _::_,[]=>by simp[pQ,dx]
 | a::l,b::m=>by simp[pQ,dx,aAL l m]
theorem aBl:∀ l m:List Ob,oU l m=dx mg l m
 | [],[]=>by simp[oU,dx]
 | [],_::_=>by simp[oU,dx]
 | _::_,[]=>by simp[oU,dx]
 | a::l,b::m=>by simp[oU,dx,aBl l m]
theorem aAO:∀ l m:List Ty,qb l m=dx kU l m
 | [],[]=>by simp[qb,dx]
 | [],_::_=>by simp[qb,dx]
 | _::_,[]=>by simp[qb,dx]
 | a::l,b::m=>by simp[qb,dx,aAO l m]
def trail (l:List UInt8) (n:Nat) (lo hi:UInt8):Bool:=decide (n≤l.length)&&(l.take n).all (fun c=>128≤c&&c≤191)&&(match l with|c::_=>decide (lo≤c)&&decide (c≤hi)|[]=>false)
def width:List UInt8→Nat
 | []=>0
 | c::l =>
   if c<128 then 1
   else if 194≤c&&c≤223&&trail l 1 128 191 then 2
   else if 224≤c&&c≤239&&trail l 2 (if c == 224 then 160 else 128) (if c == 237 then 159 else 191) then 3
   else if 240≤c&&c≤244&&trail l 3 (if c == 240 then 144 else 128) (if c == 244 then 143 else 191) then 4
   else 0
def BQ:Nat→List UInt8→Bool
 | 0,l=>l.isEmpty
 | n+1,l=>l.isEmpty||(width l != 0&&BQ n (l.drop (width l)))
def Qb (s:S):Bool:=BQ s.data.toList.length s.data.toList
def jh:List S→Bool
 | []=>true
 | [a]=>Qb a
 | a::b::l=>Qb a&&sLt a b&&jh (b::l)
def bare (t:Ty):Bool:=!t.null&&!t.fls&&!t.tru&&!t.any&&t.nums.isEmpty&&t.texts.isEmpty&&t.arrays.isEmpty&&t.objects.isEmpty
def never (t:Ty):Bool:=!t.all&&bare t
def gu (s:S):Bool:=fU s||vG s
def jq (s:Span):Bool:=gu s.low&&gu s.high&&(fU s.low||fU s.high||(fQ s.low s.high).isLE)
mutual
def ak:Ty→Bool
 | .mk a b c d ns e ts as os=>(!a||bare (.mk a b c d ns e ts as os))&&jh ts&&(!e||ts.isEmpty)&&decide (ns.length≤1)&&ns.all jq&&decide (as.length≤1)&&Oq as&&Pz os
def iw:Arr→Bool
 | .mk t lo hi=>decide (0≤lo)&&decide (-1≤hi)&&(decide (hi<0)||decide (lo≤hi))&&ak t&&(never t == decide (hi=0))
def bf:Ob→Bool
 | .mk ns fs ms r=>decide (ns.length=fs.length)&&decide (ns.length=ms.length)&&jh ns&&ak r&&O9 fs&&(fs.zip ms).all (fun p=>!p.2||!never p.1)
def Oq:List Arr→Bool
 | []=>true
 | a::l=>iw a&&Oq l
def Pz:List Ob→Bool
 | []=>true
 | a::l=>bf a&&Pz l
def O9:List Ty→Bool
 | []=>true
 | a::l=>ak a&&O9 l
end
theorem Ow:∀ l:List Arr,Oq l=l.all iw
 | []=>by simp[Oq]
 | a::l=>by simp[Oq,Ow l]
theorem NU:∀ l:List Ob,Pz l=l.all bf
 | []=>by simp[Pz]
 | a::l=>by simp[Pz,NU l]
theorem Oo:∀ l:List Ty,O9 l=l.all ak
 | []=>by simp[O9]
 | a::l=>by simp[O9,Oo l]
mutual
def ay:Ty→Nat
 | .mk _ _ _ _ _ _ _ as os=>max (iY as) (jd os)
def iY:List Arr→Nat
 | []=>0
 | .mk t _ _::l=>max (ay t+1) (iY l)
def jd:List Ob→Nat
 | []=>0
 | .mk _ fs _ r::l=>max (max (ay r+1) (jI fs)) (jd l)
def jI:List Ty→Nat
 | []=>0
 | t::l=>max (ay t+1) (jI l)
end
mutual
def iW:Ty→Nat
 | .mk _ _ _ _ _ _ _ as os=>1+(kg as+ng os)
def kg:List Arr→Nat
 | []=>0
 | .mk t _ _::l=>iW t+kg l
def ng:List Ob→Nat
 | []=>0
 | .mk _ fs _ r::l=>(iW r+lu fs)+ng l
def lu:List Ty→Nat
 | []=>0
 | t::l=>iW t+lu l
end
def adT (a b:S):S:=if fU a||fU b then ByteArray.empty else if (fQ a b).isLE then a else b
def ZM (a b:S):S:=if fU a||fU b then ByteArray.empty else if (fQ a b).isGE then a else b
def yT:List Span→List Span→List Span
 | [],b=>b
 | a,[]=>a
 | a::_,b::_=>[⟨adT a.low b.low,ZM a.high b.high⟩]
def ig:List S→List S→List S
 | [],b=>b
 | a,[]=>a
 | a::l,b::m=>if sLt a b then a::ig l (b::m) else if sLt b a then b::ig (a::l) m else a::ig l m
termination_by a b=>a.length+b.length
mutual
def jO:Ty→Ty→Ty
 | .mk a b c d ns e ts as os,t =>
   if a||t.all then dn else
   .mk false (b||t.null) (c||t.fls) (d||t.tru) (yT ns t.nums) (e||t.any) (if e||t.any then [] else ig ts t.texts) (jM as t.arrays) (os++t.objects)
def jM:List Arr→List Arr→List Arr
 | [],b=>b
 | a,[]=>a
 | a::_,b::_=>[acH a b]
def acH:Arr→Arr→Arr
 | .mk t lo hi,b=>.mk (jO t b.item) (if b.min<lo then b.min else lo) (if hi<0∨b.max<0 then -1 else if b.max > hi then b.max else hi)
end
def oh (l:List Ty):Ty:=l.foldl jO d9
def bg (o:Ob) (n:S):Ty × Bool :=
 match (o.names.zip (o.fields.zip o.must)).find? (fun p=>sEq p.1 n) with
 | some p=>p.2
 | none=>(o.rest,false)
def qD (l:List Ob):List S:=l.foldl (fun acc o=>ig acc o.names) []
def pq (l:List Ob):Ob :=
 .mk (qD l) ((qD l).map fun n=>oh (l.map fun o=>(bg o n).1)) ((qD l).map fun n=>l.all fun o=>(bg o n).2) (oh (l.map Ob.rest))
def jm (a b:Ty):Bool:=kU a b == .eq
def eu (o:Ob):Ty:=.mk false false false false [] false [] [] [o]
def jC (o:Ob):Ob :=
 let l:=(o.names.zip (o.fields.zip o.must)).filter fun p=>p.2.2||!jm p.2.1 o.rest
 .mk (l.map (·.1)) (l.map (·.2.1)) (l.map (·.2.2)) o.rest
def abB (s:Span):Bool:=!fU s.low&&!fU s.high&&(fQ s.low s.high).isGT
def Zk (a b:Span):Bool:=abB a||((fU b.low||(!fU a.low&&(fQ a.low b.low).isGE))&&(fU b.high||(!fU a.high&&(fQ a.high b.high).isLE)))
def laidAll:Ty:=.mk false true true true [⟨ByteArray.empty,ByteArray.empty⟩] true [] [.mk dn 0 (-1)] [.mk [] [] [] dn]
def yU (t:Ty):Ty:=if t.all then laidAll else t
def textsIn (a b:Ty):Bool:=b.any||(!a.any&&a.texts.all fun s=>b.texts.any fun u=>sEq u s)
mutual
def nU:Ty→Ty→Bool
 | .mk a b c d ns e ts as os,t =>
   never t||a ||
   (let x:=yU t
    (!x.null||b)&&(!x.fls||c)&&(!x.tru||d)&&(x.nums.isEmpty||(match ns,x.nums with|n::_,m::_=>Zk m n|_,_=>false)) &&
     textsIn x (.mk a b c d ns e ts as os)&&(x.arrays.isEmpty||(match as,x.arrays with|y::_,z::_=>aJC y z|_,_=>false))&&x.objects.all (alm os))
def aJC:Arr→Arr→Bool
 | .mk t lo hi,x=>!(decide (lo > x.min)||(decide (0≤hi)&&(decide (x.max<0)||decide (x.max > hi))))&&(decide (x.max=0)||nU t x.item)
def alm:List Ob→Ob→Bool
 | [],_=>false
 | o::l,x=>qC o x||alm l x
def qC:Ob→Ob→Bool
 | .mk ns fs ms r,x =>
   (x.names++ns).all (fun n=>match (ns.zip ((abd fs).zip ms)).find? (fun p=>sEq p.1 n) with
    | some p=>(!p.2.2||(bg x n).2)&&p.2.1 (bg x n).1
    | none=>nU r (bg x n).1)&&nU r x.rest
def abd:List Ty→List (Ty→Bool)
 | []=>[]
 | t::l=>(fun x=>nU t x)::abd l
end
def aMh (a b:Ty):Bool:=nU b a
def mQ (a b:Ob):Bool:=aMh (eu a) (eu b)
def Vk (o:Ob):List Ob→List Ob
 | []=>[o]
 | x::l=>match kU (eu o) (eu x) with
   | .lt=>o::x::l
   | .eq=>x::l
   | .gt=>x::Vk o l
def jg (l:List Ob):List Ob:=l.foldl (fun acc o=>Vk o acc) []
def dN:List Ob→List Ob→List Ob
 | kept,[]=>kept
 | kept,o::l=>if kept.any (mQ o)||l.any (mQ o) then dN kept l else dN (kept++[o]) l
def zQ (N:Ty→Ty) (o:Ob):Ob :=
 let o:=jC o
 if o.names.length≤12 then o else
 jC (.mk (o.names.take 12) (o.fields.take 12) (o.must.take 12) (N (oh (o.rest::o.fields.drop 12))))
def gU (N:Ty→Ty) (o:Ob):Ob:=zQ N (.mk o.names (o.fields.map N) o.must (N o.rest))
def l8 (N:Ty→Ty) (l:List Ob):List Ob :=
 let row:=dN [] (jg l)
 if row.length≤4 then row else dN [] (jg (row.take 3++[gU N (pq (row.drop 3))]))
def QY (t:Ty) (as:List Arr) (os:List Ob):Ty :=
 let out:Ty:=.mk false t.null t.fls t.tru t.nums (t.any||decide (16<t.texts.length)) (if 16<t.texts.length then [] else t.texts) as os
 if jm out laidAll then dn else out
def bG:Nat→Ty→Ty
 | 0,t=>if t.all||!t.arrays.isEmpty||!t.objects.isEmpty then dn else QY t [] []
 | h+1,t=>if t.all then dn else QY t (t.arrays.map fun a=>.mk (bG h a.item) a.min a.max) (l8 (bG h) (t.objects.map (gU (bG h))))
def uH (t:Ty):Nat→Nat→Ty→Ty
 | 0,_,best=>best
 | n+1,h,best=>if iW (bG h t)≤200 then uH t n (h+1) (bG h t) else best
def oQ (t:Ty):Ty:=uH t 8 1 (bG 0 t)
mutual
def l5:Nat→Ty→Ty
 | h,.mk a b c d ns e ts as os =>
   if a||(h == 0&&(!as.isEmpty||!os.isEmpty)) then dn else .mk a b c d ns e ts (aqN (h-1) as) (apZ (h-1) os)
def aqN:Nat→List Arr→List Arr
 | _,[]=>[]
 | h,.mk t lo hi::l=>.mk (l5 h t) lo hi::aqN h l
def apZ:Nat→List Ob→List Ob
 | _,[]=>[]
 | h,.mk ns fs ms r::l=>.mk ns (ara h fs) ms (l5 h r)::apZ h l
def ara:Nat→List Ty→List Ty
 | _,[]=>[]
 | h,t::l=>l5 h t::ara h l
end
end Go.Tidy

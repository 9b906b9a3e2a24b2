/- Part 6. -/
import Derived.Test.YtngjnfbngheccaaGreatDoorU5
import Derived.Sort.Grow
import Derived.Sort.EncStr
import Derived.Lib.SlicesCompact
import Derived.ScopeJumps
import Derived.Maps.Own
import Derived.Maps.Ext
import Derived.StringKeys
import Derived.Sort.KeysCollected
import GoSem.Op.String
set_option linter.unusedSimpArgs false
set_option linter.unusedVariables false
namespace Go.Proofs.YtngjnfbngheccaaGreatDoor.Pv
open Go Go.RowKit
section
variable {E:Env} {h:List (Key × Option HE)} {c:Ctx} {w:World}
theorem dh.rows (hg:dh E h c w) {g:Key} {e:HE} {ad:Addr} (he:hk g h=some e) (had:c.β g=some ad) (hfz:e.fz=false) {w' : World} {xs' : List (List PV)}
 (hlen:xs'.length=e.xs.length) (hpos:0<e.xs.length) (hsize:w.heap.size≤w'.heap.size) (hother:∀ b,b<w.heap.size→b≠ad.block→w'.heap[b]? = w.heap[b]?)
 (hblk:∀ (cs:Array Value) (el:TypeId) (fr:Nat × Nat),w.heap[ad.block]? = some (.cells cs el fr)→∃ cs',w'.heap[ad.block]? = some (.cells cs' el fr)∧cs'.size=cs.size)
 (hbel:Bel E.w0.heap.size E.w0 w') (hrep:ay w' (if e.bx then c else c.d) e.esz ad.block ad.off xs') :
 dh E ((g,some { e with xs:=xs' })::h) c w'∧d9 c.Fz w w':=by
 have hh:=hg.heap g e he
 obtain⟨ad',q1,q2,⟨ca,el,fr,q3,q4,q5⟩,q6,q7⟩:=hh.block hpos
 rw[had] at q1
 obtain rfl:=Option.some.inj q1
 have hnF:¬ c.Fz ad.block:=fun hf=>by rw[q7.1 hf] at hfz; cases hfz
 have hm:d9 c.Fz w w':=by
  refine⟨hsize,fun b hb=>hother b (hg.fz b hb).1 fun e=>hnF (e ▸ hb),fun b cs el fr hb=>?_⟩
  by_cases e:b=ad.block
  ·subst e
   obtain⟨cs',h1,h2⟩:=hblk cs el fr hb
   exact⟨cs',fr,h1,h2⟩
  ·exact⟨cs,fr,by rw[hother b (Array.getElem?_eq_some_iff.1 hb).1 e]; exact hb,rfl⟩
 refine⟨⟨?_,?_,?_,?_,hg.le,hg.bnd,hbel⟩,hm⟩
 ·intro k' e' he'
  rw[gy] at he'
  split at he'
  ·rename_i e1
   subst e1
   simp only[Option.some.injEq] at he'
   subst he'
   refine⟨hh.1,hh.2.1,?_⟩
   rw[had]
   obtain⟨ca',c1,c2⟩:=hblk ca el fr q3
   exact⟨q2,⟨ca',el,fr,c1,by rw[c2,hlen]; exact q4,fun o ho=>q5 o (by omega)⟩,hrep,q7⟩
  ·rename_i hne
   exact (hg.heap k' e' he').mono hm (Ctx.Le.refl c) (fun _ _=>Iff.rfl) (fun ad' had'=>hother _ (hg.fresh k' e' ad' he' had').2 (hg.apart k' g e' e ad' ad he' he had' had hne))
 ·intro k' e' ad' he' had'
  rw[gy] at he'
  split at he'
  ·rename_i e1
   subst e1
   have:=hg.fresh _ e ad' he had'
   exact⟨this.1,Nat.lt_of_lt_of_le this.2 hsize⟩
  ·have:=hg.fresh k' e' ad' he' had'
   exact⟨this.1,Nat.lt_of_lt_of_le this.2 hsize⟩
 ·intro k1 k2 e1 e2 a1 a2 he1 he2 ha1 ha2 hne
  rw[gy] at he1 he2
  split at he1
  ·rename_i x1
   subst x1
   rw[if_neg (fun x=>hne x.symm)] at he2
   exact hg.apart _ _ e e2 a1 a2 he he2 ha1 ha2 hne
  ·split at he2
   ·rename_i x2
    subst x2
    exact hg.apart _ _ e1 e a1 a2 he1 he ha1 ha2 hne
   ·exact hg.apart _ _ e1 e2 a1 a2 he1 he2 ha1 ha2 hne
 ·intro b hb
  have:=hg.fz b hb
  exact⟨Nat.lt_of_lt_of_le this.1 hsize,this.2⟩
end
def akc (P:Program) (f:FuncId):Prop:=callable P f=true ∧
 (∀ (blk off cap:Nat) (ss:List (List UInt8)) (w:World),Go.Sort.Holds Go.Proofs.encStr w blk off ss.toArray→blk<w.heap.size→ss.length<4611686018427387904 →
  Calls P f #[.slice (some ⟨blk,off,none⟩) ss.length cap] w fun e w'=>e=.returned (.tuple #[])∧∃ n os,w'=Go.Sort.grow (Go.Sort.putRow Go.Proofs.encStr (Go.Sort.ahead w n) blk off (ss.mergeSort fun x y=>decide (x≤y)).toArray) os) ∧
 (∀ (p:Option Addr) (cap:Nat) (w:World),Calls P f #[.slice p 0 cap] w fun e w'=>e=.returned (.tuple #[])∧w'=w)
def QD (s:ByteArray):List PV:=[.str s]
def zW (l:List ByteArray):List ByteArray:=((l.map fun s=>s.data.toList).mergeSort fun x y=>decide (x≤y)).map fun x=>⟨x.toArray⟩
theorem aun (l:List ByteArray):(zW l).Perm l:=by
 unfold zW
 refine ((List.mergeSort_perm _ _).map _).trans ?_
 rw[List.map_map]
 have:((fun x:List UInt8=>(⟨x.toArray⟩ : ByteArray))∘fun s:ByteArray=>s.data.toList)=id:=by
  funext s; simp
 rw[this,List.map_id]
theorem aje (l:List ByteArray):(zW l).length=l.length:=(aun l).length_eq
theorem agj {w:World} {c:Ctx} {b:Nat}:∀ {o:Nat} {l:List ByteArray},ay w c 1 b o (l.map QD)→∀ j,j<l.length→∃ s,l[j]? = some s∧w.cell? ⟨b,o+j,none⟩=some (.string s)∧s.size≤LIM
 | _,[],_,j,hj=>absurd hj (by simp)
 | o,s::l,h,j,hj=>by
   obtain⟨h1,h2,h3⟩:=h
   cases j with
   | zero =>
     obtain⟨⟨v,v1,v2,v3⟩,_⟩:=h2
     obtain⟨rfl,v4⟩:=v3
     exact⟨s,rfl,v1,v4⟩
   | succ j =>
     obtain⟨s',e1,e2,e3⟩:=agj h3 j (by simpa using hj)
     exact⟨s',by simpa using e1,by rw[show o+(j+1)=o+1+j by omega]; exact e2,e3⟩
theorem aaf {w:World} {c:Ctx} {b:Nat}:∀ {o:Nat} {l:List ByteArray},(∀ j (hj:j<l.length),w.cell? ⟨b,o+j,none⟩=some (.string l[j])∧l[j].size≤LIM)→ay w c 1 b o (l.map QD)
 | _,[],_=>trivial
 | o,s::l,h=>by
   have h0:=h 0 (by simp)
   refine⟨rfl,⟨⟨.string s,by simpa using h0.1,rfl,rfl,by simpa using h0.2⟩,trivial⟩,aaf fun j hj=>?_⟩
   have:=h (j+1) (by simpa using hj)
   rw[show o+(j+1)=o+1+j by omega] at this
   simpa using this
theorem aK9 {l:List ByteArray} (h:l.length=0):zW l=l:=by
 obtain rfl:l=[]:=List.length_eq_zero_iff.1 h
 have:=aje []
 exact List.length_eq_zero_iff.1 this
theorem aKj {P:Program} {f:FuncId} (hS:akc P f) {g:Key} {fl:Bool} {l:List ByteArray} {h:List (Key × Option HE)} (he:hk g h=some ⟨1,l.map QD,false,false⟩) :
 Uw P f [.own g 1 0 l.length fl] h (.tup []) ((g,some ⟨1,(zW l).map QD,false,false⟩)::h):=by
 obtain⟨hS0,hS1,hS2⟩:=hS
 refine⟨hS0,fun E a c w vs d s hP hg hrep=>?_⟩
 obtain⟨v,vs',rfl,hv,hvs⟩:=hrep
 obtain rfl:vs'=[]:=hvs
 obtain⟨u1,u2,u3,sa,cap,rfl,v2,v3,v4,v5,v6⟩:=hv
 have hh:=hg.hgood
 have fin:∀ (w' : World),dh E ((g,some ⟨1,(zW l).map QD,false,false⟩)::h) c w'→d9 c.Fz w w'→∃ v,Ending.returned (.tuple #[])=.returned v∧∃ c',Good E ⟨JR d (.tup []) s,(g,some ⟨1,(zW l).map QD,false,false⟩)::h⟩ c' (a.put d v) w':=fun w' k1 k2=>by
  refine⟨_,rfl,c,hg.put (r:=.tup []) ?_ k1 ?_ (Ctx.Le.refl c) k2⟩
  ·cases d<;>rfl
  ·exact⟨#[],rfl,rfl⟩
 by_cases h0:l.length=0
 ·rw[h0]
  refine Calls.mono (hS2 sa cap w) ?_
  rintro e w' ⟨rfl,rfl⟩
  refine fin w' ?_ (d9.refl _ _)
  rw[aK9 h0]
  exact hh.congr fun k e hk'=>by
   rw[gy] at hk'
   split at hk'
   ·rename_i e1; subst e1; rw[he]; exact hk'
   ·exact hk'
 ·obtain⟨ad,b1,b2,⟨ca,el,fr,b3,b4,b5⟩,b6,b7⟩:=(hh.heap g _ he).block (by simpa using Nat.pos_of_ne_zero h0)
  simp only[List.length_map,Nat.mul_one] at b4
  have b6' : ay w c.d 1 ad.block ad.off (l.map QD):=b6
  rw[b1] at v6
  have v6':=v6.resolve_left (by omega)
  obtain⟨rfl,_⟩:=v6'
  have hblk:ad.block<w.heap.size:=(Array.getElem?_eq_some_iff.1 b3).1
  have hcell:=agj b6'
  have hH:Go.Sort.Holds Go.Proofs.encStr w ad.block ad.off (l.map fun s=>s.data.toList).toArray:=fun j hj=>by
   have hj' : j<l.length:=by simpa using hj
   obtain⟨s',e1,e2,e3⟩:=hcell j hj'
   refine⟨?_,?_⟩
   ·rw[e2]
    obtain⟨e4,e5⟩:=List.getElem?_eq_some_iff.1 e1
    rw[getElem!_pos _ j hj]
    simp[Go.Proofs.encStr,e5]
   ·simp only[World.frozen?,b3]
    have:=b5 (ad.off+j) (by omega)
    simpa using this
  have hss:((l.map fun s=>s.data.toList).length)=l.length:=by simp
  have hc:=hS1 ad.block ad.off cap (l.map fun s=>s.data.toList) w hH hblk (by rw[hss]; simp only[LIM] at v4; omega)
  rw[hss] at hc
  have e0:(⟨ad.block,ad.off+0*1,none⟩ : Addr)=⟨ad.block,ad.off,none⟩:=by simp
  rw[show (#[Value.slice (some ⟨ad.block,ad.off+0*1,none⟩) l.length cap]:Array Value)=#[Value.slice (some ⟨ad.block,ad.off,none⟩) l.length cap] by simp]
  refine Calls.mono hc ?_
  rintro e w' ⟨rfl,n,os,rfl⟩
  generalize hsd:((l.map fun s=>s.data.toList).mergeSort fun x y=>decide (x≤y))=sd
  have hsl:sd.length=l.length:=by rw[← hsd,List.length_mergeSort,hss]
  have hsS:zW l=sd.map fun x=>⟨x.toArray⟩:=by rw[← hsd]; rfl
  have hH' : Go.Sort.Holds Go.Proofs.encStr (Go.Sort.ahead w n) ad.block ad.off (l.map fun s=>s.data.toList).toArray:=Go.Sort.holds_ahead _ _ _ _ _ _ hH
  have hput:(Go.Sort.putRow Go.Proofs.encStr (Go.Sort.ahead w n) ad.block ad.off sd.toArray).heap=w.heap.modify ad.block (Go.Sort.onCells (Go.Sort.putCells Go.Proofs.encStr ad.off sd.toArray)):=rfl
  obtain⟨k1,k2⟩:=hh.rows he b1 rfl (w':=Go.Sort.grow (Go.Sort.putRow Go.Proofs.encStr (Go.Sort.ahead w n) ad.block ad.off sd.toArray) os) (xs':=(zW l).map QD)
   (by simp[aje]) (by simpa using Nat.pos_of_ne_zero h0) (by simp) (fun b hb hne=>by
    rw[Go.Sort.heap_grow_old _ _ (by simpa using hb),hput,Array.getElem?_modify,if_neg (fun e=>hne e.symm)])
   (fun cs el fr hb=>by
    refine⟨Go.Sort.putCells Go.Proofs.encStr ad.off sd.toArray cs,?_,by simp[Go.Sort.putCells]⟩
    rw[Go.Sort.heap_grow_old _ _ (by simpa using hblk),hput,Array.getElem?_modify,if_pos rfl,hb]
    rfl)
   (Bel.of (hh.below.below.trans ⟨rfl,rfl,rfl,by simp,fun k hk=>by
    rw[Go.Sort.heap_grow_old _ _ (by simpa using Nat.lt_of_lt_of_le hk hh.below.size),hput,Array.getElem?_modify,if_neg]
    have:=(hh.fresh g _ ad he b1).1
    omega⟩))
   (aaf fun j hj=>by
    have hj1:j<l.length:=by rw[aje] at hj; exact hj
    refine⟨?_,?_⟩
    ·rw[Go.Sort.cell?_grow _ _ _ (by simpa using hblk),Go.Sort.cell?_putRow Go.Proofs.encStr (Go.Sort.ahead w n) ad.block ad.off _ sd.toArray hH' (by simp[hsl]) j (by simpa[hsl] using hj1)]
     rw[getElem!_pos _ j (by simpa[hsl] using hj1)]
     simp[hsS,Go.Proofs.encStr]
    ·have hm:(zW l)[j]∈l:=(aun l).mem_iff.1 (List.getElem_mem hj)
     obtain⟨i,hi,e⟩:=List.getElem_of_mem hm
     obtain⟨s',e1,e2,e3⟩:=hcell i hi
     obtain⟨e4,e5⟩:=List.getElem?_eq_some_iff.1 e1
     rw[← e,e5]; exact e3)
  exact fin _ k1 k2
def aaQ (P:Program) (f:FuncId):Prop:=callable P f=true ∧
 (∀ (blk off cap:Nat) (zs:List (List UInt8)) (w:World),Go.Sort.Holds Go.Proofs.encStr w blk off zs.toArray→zs.length≤9223372036854775807→zs.length≤cap →
  Calls P f #[.slice (some ⟨blk,off,none⟩) zs.length cap] w fun e w'=>e=.returned (.slice (some ⟨blk,off,none⟩) (Go.Lib.compact zs).length cap)∧∃ q,w'=Go.Sort.putRow Go.Proofs.encStr (Go.Sort.ahead w q) blk off (Go.Lib.compact zs++List.replicate (zs.length-(Go.Lib.compact zs).length) []).toArray) ∧
 (∀ (a:Option Addr) (cap:Nat) (w:World),Calls P f #[.slice a 0 cap] w fun e w'=>e=.returned (.slice a 0 cap)∧w'=w)
def qy (l:List ByteArray):List ByteArray:=(Go.Lib.compact (l.map fun s=>s.data.toList)).map fun x=>⟨x.toArray⟩
theorem ahJ (l:List ByteArray):(qy l).length≤l.length:=by
 unfold qy Go.Lib.compact Go.Lib.compactUpTo
 simp only[List.length_map]
 exact Nat.le_trans (List.length_filter_le _ _) (by simp)
theorem aGa {l:List ByteArray} {s:ByteArray} (h:s∈qy l):s∈l:=by
 unfold qy Go.Lib.compact Go.Lib.compactUpTo at h
 obtain⟨x,hx,rfl⟩:=List.mem_map.1 h
 obtain⟨j,hj,rfl⟩:=List.mem_map.1 hx
 have hj':=List.mem_range.1 (List.mem_filter.1 hj).1
 have hj2:j<l.length:=by simpa using hj'
 rw[getElem!_pos _ j (by simpa using hj2)]
 have e:(⟨((l.map fun (s:ByteArray)=>s.data.toList).toArray[j]'(by simpa using hj2)).toArray⟩ : ByteArray)=l[j]:=by simp
 rw[e]
 exact List.getElem_mem hj2
def yT (l:List ByteArray):List ByteArray:=qy l++List.replicate (l.length-(qy l).length) ByteArray.empty
theorem aoy (l:List ByteArray):(yT l).length=l.length:=by
 have:=ahJ l
 simp[yT]; omega
theorem aEw {E:Env} {h:List (Key × Option HE)} {c:Ctx} {w:World} (hh:dh E h c w) {g:Key} {l:List ByteArray} {ad:Addr} (he:hk g h=some ⟨1,l.map QD,false,false⟩) (b1:c.β g=some ad) (h0:¬ l.length=0) (n:Nat) (os:Array Obj) {l' : List ByteArray}
 (hl:l'.length=l.length) (hm:∀ s∈l',s.size≤LIM) :
 dh E ((g,some ⟨1,l'.map QD,false,false⟩)::h) c (Go.Sort.grow (Go.Sort.putRow Go.Proofs.encStr (Go.Sort.ahead w n) ad.block ad.off (l'.map fun s=>s.data.toList).toArray) os) ∧
  d9 c.Fz w (Go.Sort.grow (Go.Sort.putRow Go.Proofs.encStr (Go.Sort.ahead w n) ad.block ad.off (l'.map fun s=>s.data.toList).toArray) os) ∧
  Go.Sort.Holds Go.Proofs.encStr w ad.block ad.off (l.map fun s=>s.data.toList).toArray∧ad.block<w.heap.size:=by
 obtain⟨ad',b1',b2,⟨ca,el,fr,b3,b4,b5⟩,b6,b7⟩:=(hh.heap g _ he).block (by simpa using Nat.pos_of_ne_zero h0)
 rw[b1] at b1'
 obtain rfl:=Option.some.inj b1'
 simp only[List.length_map,Nat.mul_one] at b4
 have b6' : ay w c.d 1 ad.block ad.off (l.map QD):=b6
 have hblk:ad.block<w.heap.size:=(Array.getElem?_eq_some_iff.1 b3).1
 have hcell:=agj b6'
 have hH:Go.Sort.Holds Go.Proofs.encStr w ad.block ad.off (l.map fun s=>s.data.toList).toArray:=fun j hj=>by
  have hj' : j<l.length:=by simpa using hj
  obtain⟨s',e1,e2,e3⟩:=hcell j hj'
  refine⟨?_,?_⟩
  ·rw[e2]
   obtain⟨e4,e5⟩:=List.getElem?_eq_some_iff.1 e1
   rw[getElem!_pos _ j hj]
   simp[Go.Proofs.encStr,e5]
  ·simp only[World.frozen?,b3]
   have:=b5 (ad.off+j) (by omega)
   simpa using this
 have hH' : Go.Sort.Holds Go.Proofs.encStr (Go.Sort.ahead w n) ad.block ad.off (l.map fun s=>s.data.toList).toArray:=Go.Sort.holds_ahead _ _ _ _ _ _ hH
 generalize hsd:(l'.map fun s=>s.data.toList)=sd
 have hsl:sd.length=l.length:=by rw[← hsd,List.length_map,hl]
 have hput:(Go.Sort.putRow Go.Proofs.encStr (Go.Sort.ahead w n) ad.block ad.off sd.toArray).heap=w.heap.modify ad.block (Go.Sort.onCells (Go.Sort.putCells Go.Proofs.encStr ad.off sd.toArray)):=rfl
 obtain⟨k1,k2⟩:=hh.rows he b1 rfl (w':=Go.Sort.grow (Go.Sort.putRow Go.Proofs.encStr (Go.Sort.ahead w n) ad.block ad.off sd.toArray) os) (xs':=l'.map QD)
  (by simp[hl]) (by simpa using Nat.pos_of_ne_zero h0) (by simp) (fun b hb hne=>by
   rw[Go.Sort.heap_grow_old _ _ (by simpa using hb),hput,Array.getElem?_modify,if_neg (fun e=>hne e.symm)])
  (fun cs el fr hb=>by
   refine⟨Go.Sort.putCells Go.Proofs.encStr ad.off sd.toArray cs,?_,by simp[Go.Sort.putCells]⟩
   rw[Go.Sort.heap_grow_old _ _ (by simpa using hblk),hput,Array.getElem?_modify,if_pos rfl,hb]
   rfl)
  (Bel.of (hh.below.below.trans ⟨rfl,rfl,rfl,by simp,fun k hk=>by
   rw[Go.Sort.heap_grow_old _ _ (by simpa using Nat.lt_of_lt_of_le hk hh.below.size),hput,Array.getElem?_modify,if_neg]
   have:=(hh.fresh g _ ad he b1).1
   omega⟩))
  (aaf fun j hj=>by
   have hj1:j<l.length:=by rw[hl] at hj; exact hj
   refine⟨?_,hm _ (List.getElem_mem hj)⟩
   rw[Go.Sort.cell?_grow _ _ _ (by simpa using hblk),Go.Sort.cell?_putRow Go.Proofs.encStr (Go.Sort.ahead w n) ad.block ad.off _ sd.toArray hH' (by simp[hsl]) j (by simpa[hsl] using hj1)]
   rw[getElem!_pos _ j (by simpa[hsl] using hj1)]
   simp[← hsd,Go.Proofs.encStr])
 exact⟨k1,k2,hH,hblk⟩
theorem aEg {P:Program} {f:FuncId} (hS:aaQ P f) {g:Key} {l:List ByteArray} {h:List (Key × Option HE)} (he:hk g h=some ⟨1,l.map QD,false,false⟩) :
 Uw P f [.own g 1 0 l.length false] h (.own g 1 0 (qy l).length false) ((g,some ⟨1,(yT l).map QD,false,false⟩)::h):=by
 obtain⟨hS0,hS1,hS2⟩:=hS
 refine⟨hS0,fun E a c w vs d s hP hg hrep=>?_⟩
 obtain⟨v,vs',rfl,hv,hvs⟩:=hrep
 obtain rfl:vs'=[]:=hvs
 have hv0:=hv
 obtain⟨u1,u2,u3,sa,cap,rfl,v2,v3,v4,v5,v6⟩:=hv
 have hh:=hg.hgood
 by_cases h0:l.length=0
 ·have e1:qy l=[]:=List.length_eq_zero_iff.1 (by have:=ahJ l; omega)
  have e2:yT l=l:=by
   obtain rfl:l=[]:=List.length_eq_zero_iff.1 h0
   simp[yT,e1]
  rw[h0,e1,e2]
  refine Calls.mono (hS2 sa cap w) ?_
  rintro e w' ⟨rfl,rfl⟩
  refine⟨_,rfl,c,hg.put (r:=.own g 1 0 0 false) (by cases d<;>rfl) (hh.congr fun k e hk'=>?_) (by rw[h0] at hv0; exact hv0) (Ctx.Le.refl c) (d9.refl _ _)⟩
  rw[gy] at hk'
  split at hk'
  ·rename_i e1; subst e1; rw[he]; exact hk'
  ·exact hk'
 ·obtain⟨ad,b1,_⟩:=(hh.heap g _ he).block (by simpa using Nat.pos_of_ne_zero h0)
  rw[b1] at v6
  have v6':=v6.resolve_left (by omega)
  obtain⟨rfl,w6⟩:=v6'
  have hss:((l.map fun s=>s.data.toList).length)=l.length:=by simp
  have hbd:∀ s∈l,s.size≤LIM:=fun s hs=>by
   obtain⟨ad',b1',b2,b3,b6,b7⟩:=(hh.heap g _ he).block (by simpa using Nat.pos_of_ne_zero h0)
   obtain⟨i,hi,e⟩:=List.getElem_of_mem hs
   obtain⟨s',e1,e2,e3⟩:=agj (w:=w) (c:=c.d) b6 i hi
   obtain⟨e4,e5⟩:=List.getElem?_eq_some_iff.1 e1
   rw[← e,e5]; exact e3
  have hR:∀ s∈yT l,s.size≤LIM:=fun s hs=>by
   rcases List.mem_append.1 hs with hs|hs
   ·exact hbd s (aGa hs)
   ·rw[(List.mem_replicate.1 hs).2]; simp[LIM]
  have hcl:=ahJ l
  have hml:((yT l).map fun s=>s.data.toList)=Go.Lib.compact (l.map fun s=>s.data.toList)++List.replicate ((l.map fun s=>s.data.toList).length-(Go.Lib.compact (l.map fun s=>s.data.toList)).length) []:=by
   simp[yT,qy,Function.comp_def]
  obtain⟨_,_,hH,hblk⟩:=aEw hh he b1 h0 0 #[] (aoy l) hR
  have hc:=hS1 ad.block ad.off cap (l.map fun s=>s.data.toList) w hH (by rw[hss]; simp only[LIM] at v4; omega) (by rw[hss]; omega)
  rw[hss] at hc
  rw[show (#[Value.slice (some ⟨ad.block,ad.off+0*1,none⟩) l.length cap]:Array Value)=#[Value.slice (some ⟨ad.block,ad.off,none⟩) l.length cap] by simp]
  refine Calls.mono hc ?_
  rintro e w' ⟨rfl,q,rfl⟩
  obtain⟨k1,k2,_,_⟩:=aEw hh he b1 h0 q #[] (aoy l) hR
  rw[hml,hss,Go.Sort.grow_empty] at k1 k2
  have hlen:(Go.Lib.compact (l.map fun s=>s.data.toList)).length=(qy l).length:=by simp[qy]
  rw[hlen] at k1 k2 ⊢
  refine⟨_,rfl,c,hg.put (r:=.own g 1 0 (qy l).length false) (by cases d<;>rfl) k1 ?_ (Ctx.Le.refl c) k2⟩
  refine⟨u1,u2,u3,_,cap,rfl,by omega,v3,by omega,by simp,?_⟩
  rw[b1]
  refine .inr ⟨by simp,?_⟩
  obtain⟨cs,el,fr,w1,w2⟩:=w6
  obtain⟨cs',fr',x1,x2⟩:=k2.keep _ _ _ _ w1
  exact⟨cs',el,fr',x1,by omega⟩
end Go.Proofs.YtngjnfbngheccaaGreatDoor.Pv
namespace Go.Proofs.YtngjnfbngheccaaGreatDoor.Pv
open Go Go.RowKit
def wU (P:Program) (f:FuncId) (args:List PV) (h:List (Key × Option HE)) (K:PV→List (Key × Option HE)→Prop):Prop :=
 callable P f=true∧∀ (E:Env) (a:Act) (c:Ctx) (w:World) (vs:List Value) (d:Option Nat) (s:List (Nat × PV)),E.P=P→Good E ⟨s,h⟩ c a w→aY w c args vs →
  Calls P f vs.toArray w fun e w'=>∃ v,e=.returned v∧∃ r h' c',K r h'∧Good E ⟨JR d r s,h'⟩ c' (a.put d v) w'
theorem wU.mono {P:Program} {f:FuncId} {args:List PV} {h:List (Key × Option HE)} {K K' : PV→List (Key × Option HE)→Prop} (hr:wU P f args h K) (hk:∀ r h',K r h'→K' r h'):wU P f args h K' :=
 ⟨hr.1,fun E a c w vs d s hP hg hrep=>Calls.mono (hr.2 E a c w vs d s hP hg hrep) (by
  rintro e w' ⟨v,he,r,h',c',h1,hg'⟩
  exact⟨v,he,r,h',c',hk r h' h1,hg'⟩)⟩
theorem ak.aat {E:Env} {f:FuncId} {args:List PV} {d:Option Nat} {ms:List MOp} {st:St} {ks:List KF} {Q:Ex→St→Prop} {K:PV→List (Key × Option HE)→Prop} (hr:wU E.P f args st.h K)
 (h:∀ r h',K r h'→XR E ms ⟨JR d r st.s,h'⟩ ks Q):ak E f args d ms st ks Q:=by
 refine .inr ⟨hr.1,fun a c w vs hg hrep=>Calls.mono (hr.2 E a c w vs d st.s rfl hg hrep) ?_⟩
 rintro e w' ⟨v,he,r,h',c',hk,hg'⟩
 exact⟨v,he,_,c',h r h' hk,hg'⟩
theorem wU.of {P:Program} {f nt:Nat} {m:MC} {rs:List RV} {args:List PV} {h:List (Key × Option HE)} {K:PV→List (Key × Option HE)→Prop} (ah:P.follows .mixedOrders=true) (hm:av P f=some (m.erase,nt,rs)) (hn:args.length≤nt)
 (hx:∀ E:Env,E.P=P→(∀ k e,hk k h=some e→k.2<E.V)→XC E m ⟨(St.init args).s,h⟩ [] (alQ rs fun r' h''=>∃ h',K r' h'∧(∀ k e,hk k h'=some e→∃ e0,hk k h=some e0)∧∀ k,k.2<E.V→leE (fun k=>hk k h'') (hk k h'') (hk k h'))):wU P f args h K:=by
 obtain⟨fn,c0,hf,hc,hb,rfl,htm,hrs⟩:=JI hm
 refine⟨hc,fun E a c w vs d s hP hg hr=>?_⟩
 subst hP
 obtain⟨N,hN⟩:=hg.bnd
 have hV:∀ k e,hk k h=some e→k.2<N:=fun k e he=>hN k (hg.heap k e he).1
 refine calls_of_wp hf hb ?_
 refine wp_mono (jg (E:=⟨E.P,E.w0,E.F0,fn.ntmps,adJ E s a,N,E.glob⟩) ah c0 m _ _ w _ htm ⟨c,aes hg hr hn⟩ (hx _ rfl hV)) ?_
 rintro e a' w' ⟨ex,st',rfl,hq,c',hg'⟩
 have key:∀ q:Ji st' rs∧∃ h',K (oZ st' rs) h'∧(∀ k e,hk k h'=some e→∃ e0,hk k h=some e0)∧∀ k,k.2<N→leE (fun k=>hk k st'.h) (hk k st'.h) (hk k h'),a'.defers=[]∧∃ v,(results fn a'.tmps).run E.P w'=.ok v w'∧∃ v',Ending.returned v=.returned v'∧∃ r h' c'',K r h'∧Good E ⟨JR d r s,h'⟩ c'' (a.put d v') w':=by
  rintro⟨q1,h',q0,hold,q2⟩
  obtain⟨v,k1,k2⟩:=Jo hg' hrs q1
  refine⟨hg'.defers,v,k1,v,rfl,_,h',c',q0,(alh hg hg' k2).leH fun k=>?_⟩
  cases he:hk k h' with
  | none=>cases hk k st'.h<;>trivial
  | some e =>
    obtain⟨e0,he0⟩:=hold k e he
    have:=q2 k (hV k e0 he0)
    rw[he] at this
    exact this
 cases ex with
 | normal=>exact key hq
 | ret=>exact key hq
 | exit id=>exact hq.elim
 | goto l=>exact hq.elim
end Go.Proofs.YtngjnfbngheccaaGreatDoor.Pv
namespace Go.Proofs.YtngjnfbngheccaaGreatDoor.Pv
open Go Go.RowKit
section
variable {E:Env} {h:List (Key × Option HE)} {c:Ctx} {w:World}
theorem dh.more (hg:dh E h c w) {g:Key} {e:HE} {ad:Addr} (he:hk g h=some e) (had:c.β g=some ad) (hbx:e.bx=false) {xs:List (List PV)}
 (hsz:∃ cs el fr,w.heap[ad.block]? = some (.cells cs el fr)∧ad.off+xs.length*e.esz≤cs.size) (hr:ay w c.d e.esz ad.block ad.off xs):dh E ((g,some { e with xs:=xs })::h) c w:=by
 have look:∀ k e',hk k ((g,some ({ e with xs:=xs }:HE))::h)=some e'→∃ e0,hk k h=some e0∧((k=g∧e'={ e with xs:=xs })∨(k≠g∧e0=e')):=fun k e' hk'=>by
  rw[gy] at hk'
  split at hk'
  ·rename_i h2
   subst h2
   exact⟨e,he,.inl ⟨rfl,(Option.some.inj hk').symm⟩⟩
  ·rename_i h2
   exact⟨e',hk',.inr ⟨h2,rfl⟩⟩
 refine⟨fun k e' hk'=>?_,fun k e' ad' hk' had'=>?_,fun k k' e1 e2 ad1 ad2 h1 h2 h3 h4 hne=>?_,hg.fz,hg.le,hg.bnd,hg.below⟩
 ·obtain⟨e0,h0,⟨rfl,rfl⟩|⟨_,rfl⟩⟩:=look k e' hk'
  ·obtain⟨u1,u2,u3⟩:=hg.heap _ _ he
   refine⟨u1,u2,?_⟩
   rw[had] at u3 ⊢
   obtain⟨b1,⟨cs,el,fr,b2,b3,b4⟩,b5,b6⟩:=u3
   obtain⟨cs',el',fr',c1,c2⟩:=hsz
   rw[b2] at c1
   obtain⟨rfl,rfl,rfl⟩ : cs=cs'∧el=el'∧fr=fr':=by simpa using c1
   exact⟨b1,⟨cs,el,fr,b2,c2,b4⟩,by simpa[hbx] using hr,b6⟩
  ·exact hg.heap k _ h0
 ·obtain⟨e0,h0,_⟩:=look k e' hk'
  exact hg.fresh k e0 ad' h0 had'
 ·obtain⟨f1,g1,_⟩:=look k e1 h1
  obtain⟨f2,g2,_⟩:=look k' e2 h2
  exact hg.apart k k' f1 f2 ad1 ad2 g1 g2 h3 h4 hne
theorem dh.del (hg:dh E h c w) {g:Key} {esz:Nat} {xs:List (List PV)} {ad:Addr} (he:hk g h=some ⟨esz,xs,false,false⟩) (had:c.β g=some ad) {i:Nat} (hi:i<xs.length) {news zs:List Value} {p q:Nat}
 (hnews:aY w c.d (xs.drop (i+1)).flatten news) (h1:∀ u∈news,u.oneCell'=true) (hp:p=ad.off+i*esz) (hq:q=ad.off+(xs.length-1)*esz) :
 dh E ((g,some ⟨esz,xs.eraseIdx i,false,false⟩)::h) c ((w.setCells ad.block p news).setCells ad.block q zs)∧d9 c.Fz w ((w.setCells ad.block p news).setCells ad.block q zs):=by
 obtain⟨u1,u2,u3⟩:=hg.heap _ _ he
 rw[had] at u3
 obtain⟨b1,⟨cs,el,fr,b2,b3,b4⟩,b5,b6⟩:=u3
 have b5' : ay w c.d esz ad.block ad.off xs:=b5
 have hlens:∀ r∈xs,r.length=esz:=b5'.lens
 have hnl:news.length=(xs.length-(i+1))*esz:=by
  rw[hnews.length,zm _ fun r hr=>hlens r (List.mem_of_mem_drop hr)]
  simp
 obtain⟨k1,k2⟩:=hg.cut he had rfl (n:=i) (p:=p) (Nat.le_of_lt hi) news (by simp only; omega)
 have b3' : ad.off+xs.length*esz≤cs.size:=b3
 have hmul:i*esz+(xs.length-(i+1))*esz+esz=xs.length*esz:=by
  rw[← Nat.add_mul,← Nat.succ_mul]
  congr 1; omega
 obtain⟨cs2,z1,z2⟩:=qY ad.block news p w cs el fr b2
 have hcells:∀ j,j<news.length→(w.cell? ⟨ad.block,p+j,none⟩).isSome=true:=fun j hj=>by
  have:p+j<cs.size:=by omega
  simp[World.cell?,b2,this]
 have r1:ay (w.setCells ad.block p news) c.d esz ad.block ad.off (xs.take i):=by
  obtain⟨_,_,v3⟩:=k1.heap g ⟨esz,xs.take i,false,false⟩ (by simp[gy])
  rw[had] at v3
  exact v3.2.2.1
 have r2:ay (w.setCells ad.block p news) c.d esz ad.block (ad.off+(xs.take i).length*esz) (xs.drop (i+1)):=by
  refine ay.aaN (aY.mono _ _ (c:=c.d) k2 (Ctx.Le.refl c.d) hnews) h1 (fun r hr=>hlens r (List.mem_of_mem_drop hr)) (fun j v hj=>?_)
  have hlt:j<news.length:=(List.getElem?_eq_some_iff.1 hj).1
  have e:ad.off+(xs.take i).length*esz=p:=by rw[List.length_take,Nat.min_eq_left (Nat.le_of_lt hi),hp]
  rw[e,World.cell?_setCells_in _ _ _ _ hcells j hlt]
  rw[List.getElem?_eq_getElem hlt] at hj
  exact hj
 have hxl:(xs.take i++xs.drop (i+1)).length=xs.length-1:=by simp; omega
 have hle:(xs.length-1)*esz≤xs.length*esz:=Nat.mul_le_mul_right _ (by omega)
 have m1:=k1.more (g:=g) (e:=⟨esz,xs.take i,false,false⟩) (by simp[gy]) had rfl (xs:=xs.take i++xs.drop (i+1))
  ⟨cs2,el,fr,z1,by rw[hxl]; show ad.off+(xs.length-1)*esz≤_; rw[z2]; omega⟩ (ay.append r1 r2)
 obtain⟨n1,n2⟩:=m1.cut (g:=g) (e:=⟨esz,xs.take i++xs.drop (i+1),false,false⟩) (by simp[gy]) had rfl (n:=xs.length-1) (p:=q) (by show _≤(xs.take i++xs.drop (i+1)).length; rw[hxl]; exact Nat.le_refl _) zs (by show ad.off+(xs.length-1)*esz≤q; omega)
 refine⟨n1.congr fun k e' hk'=>?_,k2.trans n2⟩
 rw[gy] at hk' ⊢
 split at hk'
 ·rename_i e1
  rw[if_pos e1,← hk',List.eraseIdx_eq_take_drop_succ]
  show some (HE.mk esz ((xs.take i++xs.drop (i+1)).take (xs.length-1)) false false)=_
  rw[List.take_of_length_le (l:=xs.take i++xs.drop (i+1)) (by rw[hxl]; exact Nat.le_refl _)]
 ·rename_i e1
  rw[if_neg e1,gy,if_neg e1,gy,if_neg e1]; exact hk'
theorem abt.drew' {k:Key} {e:HE} (h:abt w c k e):abt w.drew c k e:=by
 obtain⟨h1,h2,h3⟩:=h
 refine⟨h1,h2,?_⟩
 cases hb:c.β k with
 | none=>rw[hb] at h3; exact h3
 | some ad =>
   rw[hb] at h3
   obtain⟨b1,b2,b3,b4⟩:=h3
   refine⟨b1,b2,?_,b4⟩
   split
   ·rename_i hx
    rw[if_pos hx] at b3
    exact ay.mono (w:=w) (w':=w.drew) _ _ rfl _ _ (PZ w) (Ctx.Le.refl _) b3
   ·rename_i hx
    rw[if_neg hx] at b3
    exact ay.mono (w:=w) (w':=w.drew) _ _ rfl _ _ (c:=c.d) (PZ w) (Ctx.Le.refl _) b3
theorem dh.drew (hg:dh E h c w):dh E h c w.drew :=
 ⟨fun k e he=>(hg.heap k e he).drew',hg.fresh,hg.apart,hg.fz,hg.le,hg.bnd,hg.below.drew⟩
end
end Go.Proofs.YtngjnfbngheccaaGreatDoor.Pv
namespace Go.Proofs.YtngjnfbngheccaaGreatDoor.Pv
open Go Go.RowKit
def trunc (w:World) (B:Nat):World:={ w with heap:=w.heap.extract 0 B }
theorem vw {w:World} {B:Nat} (h:B≤w.heap.size):(trunc w B).heap.size=B:=by simp[trunc,Nat.min_eq_left h]
theorem Jr (w:World) (B:Nat) {k:Nat} (hk:k<B):(trunc w B).heap[k]? = w.heap[k]? := by
 simp only[trunc,Array.getElem?_extract]
 split
 ·simp
 ·rename_i h
  rw[Array.getElem?_eq_none (by omega)]
theorem aq8 (w:World) (B:Nat) (hB:B≤w.heap.size):Bel B (trunc w B) w :=
 Bel.of ⟨rfl,rfl,rfl,by rw[vw hB]; exact hB,fun k hk=>(Jr w B hk).symm⟩
section
variable {E:Env} {st:St} {c:Ctx} {a:Act} {w w' : World} {B:Nat}
theorem Good.gok (hg:Good E st c a w) (hB:E.w0.heap.size≤B) (hBw:B≤w'.heap.size) (hm:d9 c.Fz w w'):GOk E.P (trunc w' B) (fun b=>c.Fz b∧b<B):=fun g cs hgt=>by
 obtain⟨h1,h2,h3⟩:=E.glob g cs hgt
 have hf:=hg.le g h2
 have e:(trunc w' B).heap[g]? = E.w0.heap[g]? := by
  rw[Jr w' B (Nat.lt_of_lt_of_le h1 hB),hm.same g hf,hg.below.block g h1]
 refine⟨by rw[vw hBw]; omega,⟨hf,by omega⟩,fun j n hj=>?_⟩
 obtain⟨h4,h5⟩:=h3 j n hj
 exact⟨by rw[← h4]; exact cell_of_heap e j,h5⟩
theorem Good.aPf (hg:Good E st c a w) (hB:E.w0.heap.size≤B) (hBw:B≤w'.heap.size) (hm:d9 c.Fz w w') (ho:∀ k e ad,hk k st.h=some e→c.β k=some ad→B≤ad.block∧w'.heap[ad.block]? = w.heap[ad.block]?) :
 Good ⟨E.P,trunc w' B,fun b=>c.Fz b∧b<B,E.nt,E.G,E.V,hg.gok hB hBw hm⟩ st c a w' where
 defers:=hg.defers
 size:=hg.size
 slot:=fun t v hv=>bq.mono _ _ hm (Ctx.Le.refl c) (hg.slot t v hv)
 heap:=fun k e he=>(hg.heap k e he).mono hm (Ctx.Le.refl c) (fun _ _=>Iff.rfl) (fun ad had=>(ho k e ad he had).2)
 fresh:=fun k e ad he had=>⟨by show (trunc w' B).heap.size≤_; rw[vw hBw]; exact (ho k e ad he had).1,Nat.lt_of_lt_of_le (hg.fresh k e ad he had).2 hm.size⟩
 apart:=hg.apart
 fz:=fun b hb=>⟨Nat.lt_of_lt_of_le (hg.fz b hb).1 hm.size,by
  show (c.Fz b∧b<B)∨(trunc w' B).heap.size≤b
  rw[vw hBw]
  rcases Nat.lt_or_ge b B with h|h
  ·exact .inl ⟨hb,h⟩
  ·exact .inr h⟩
 le:=fun b hb=>hb.1
 bnd:=hg.bnd
 below:=by show Bel (trunc w' B).heap.size (trunc w' B) w'; rw[vw hBw]; exact aq8 w' B hBw
 ghost:=fun p hp=>bq.mono _ _ hm (Ctx.Le.refl c) (hg.ghost p hp)
end
end Go.Proofs.YtngjnfbngheccaaGreatDoor.Pv
namespace Go.Proofs.YtngjnfbngheccaaGreatDoor.Pv
open Go Go.RowKit
section
variable {P:Program} {a:Act} {w:World} {Q:Exit→Act→World→Prop}
theorem axH {c rest:Code} (l:Nat) (J:Nat→Act→World→Prop) (hf:findLabel c l=some rest)
 (first:c.wp P (Exit.jump l (fun a w=>∃ n,J n a w) Q) a w)
 (pass:∀ n a w,J n a w→rest.wp P (Exit.jump l (fun a' w'=>∃ m,m<n∧J m a' w') Q) a w):(Code.scope c).wp P Q a w:=by
 intro b k cs
 have hg:gotoIn l (.inScope c::k)=some (.code rest::.inScope c::k):=by simp[gotoIn,hf]
 have key:∀ n a w,J n a w→∃ e a' w',Q e a' w'∧Arrives P (lone (b.at a (.code rest::.inScope c::k)) cs w) b k cs e a' w':=by
  intro n
  induction n using Nat.strongRecOn with
  | _ n ih =>
    intro a w hJ
    obtain⟨e,a₁,w₁,hq,harr⟩:=pass n a w hJ b (.inScope c::k) cs
    cases e with
    | normal=>exact⟨.normal,a₁,w₁,hq,Steps.trans harr (.one step_inScope)⟩
    | exit id=>exact⟨.exit id,a₁,w₁,hq,fun k' hk=>harr k' (by simp[exitTo,hk])⟩
    | goto l' =>
      obtain⟨rfl,m,hlt,hJ'⟩:=hq
      obtain⟨e₂,a₂,w₂,hq₂,harr₂⟩:=ih m hlt a₁ w₁ hJ'
      exact⟨e₂,a₂,w₂,hq₂,.of_steps (harr _ hg) harr₂⟩
    | ret=>exact⟨_,a₁,w₁,hq,harr⟩
    | panic ch=>exact⟨_,a₁,w₁,hq,harr⟩
    | outgrown=>exact⟨_,a₁,w₁,hq,harr⟩
 obtain⟨e,a₁,w₁,hq,harr⟩:=first b (.inScope c::k) cs
 cases e with
 | normal=>exact⟨.normal,a₁,w₁,hq,.head step_scope (Steps.trans harr (.one step_inScope))⟩
 | exit id=>exact⟨.exit id,a₁,w₁,hq,fun k' hk=>.head step_scope (harr k' (by simp[exitTo,hk]))⟩
 | goto l' =>
   obtain⟨rfl,n,hJ'⟩:=hq
   obtain⟨e₂,a₂,w₂,hq₂,harr₂⟩:=key n a₁ w₁ hJ'
   exact⟨e₂,a₂,w₂,hq₂,.of_steps (.head step_scope (harr _ hg)) harr₂⟩
 | ret=>exact⟨_,a₁,w₁,hq,.of_steps (.one step_scope) harr⟩
 | panic ch=>exact⟨_,a₁,w₁,hq,.of_steps (.one step_scope) harr⟩
 | outgrown=>exact⟨_,a₁,w₁,hq,.of_steps (.one step_scope) harr⟩
end
theorem aee {P:Program} {nt:Nat} {i:Nat} {ops:Array Oper} {d:Bool} {m:MC} (h:dW P nt (.region i ops d)=some m):(∃ ms,m=.reg ms)∨∃ un ms,m=.draw un ms:=by
 simp only[dW] at h
 split at h
 ·split at h
  ·split at h
   ·exact .inr ⟨_,_,(Option.some.inj h).symm⟩
   ·cases h
  ·exact .inl ⟨_,(Option.some.inj h).symm⟩
 ·cases h
theorem qx {P:Program} {nt:Nat} {c:Code} {m n:MC} (h:dW P nt c=some (.seq m n)):∃ x y,c=.seq x y∧dW P nt x=some m∧dW P nt y=some n:=by
 cases c with
 | seq x y =>
   simp only[dW] at h
   split at h
   ·rename_i h1 h2
    cases h
    exact⟨x,y,rfl,h1,h2⟩
   ·cases h
 | region i ops d=>rcases aee h with ⟨_,h⟩|⟨_,_,h⟩<;>cases h
 | cond q x y=>simp only[dW] at h; split at h<;>cases h
 | loop x=>simp[dW] at h
 | block id x=>simp[dW] at h
 | scope x=>simp[dW] at h
 | _=>simp[dW] at h
theorem aIQ {P:Program} {nt:Nat} {c:Code} {m:MC} (h:dW P nt c=some (.scope m)):∃ x,c=.scope x∧dW P nt x=some m:=by
 cases c with
 | scope x =>
   simp only[dW,Option.map_eq_some_iff,MC.scope.injEq,exists_eq_right] at h
   exact⟨x,rfl,h⟩
 | seq x y=>simp only[dW] at h; split at h<;>cases h
 | region i ops d=>rcases aee h with ⟨_,h⟩|⟨_,_,h⟩<;>cases h
 | cond q x y=>simp only[dW] at h; split at h<;>cases h
 | loop x=>simp[dW] at h
 | block id x=>simp[dW] at h
 | _=>simp[dW] at h
theorem aJr {P:Program} {nt:Nat} {c:Code} {l:Nat} (h:dW P nt c=some (.label l)):c=.label l:=by
 cases c with
 | label x =>
   simp only[dW,Option.some.injEq,MC.label.injEq] at h
   rw[h]
 | seq x y=>simp only[dW] at h; split at h<;>cases h
 | region i ops d=>rcases aee h with ⟨_,h⟩|⟨_,_,h⟩<;>cases h
 | cond q x y=>simp only[dW] at h; split at h<;>cases h
 | loop x=>simp[dW] at h
 | block id x=>simp[dW] at h
 | scope x=>simp[dW] at h
 | _=>simp[dW] at h
def aqr:MC→Bool
 | .seq a b=>aqr a&&aqr b
 | .label _=>false
 | _=>true
theorem amd {P:Program} {nt:Nat} (l:Nat):∀ (c:Code) (m:MC),dW P nt c=some m→aqr m=true→findLabel c l=none
 | .seq x y,m,h,hn=>by
   simp only[dW] at h
   split at h
   ·rename_i m1 m2 h1 h2
    cases h
    simp only[aqr,Bool.and_eq_true] at hn
    simp only[findLabel,amd l x m1 h1 hn.1,amd l y m2 h2 hn.2]
   ·cases h
 | .label k,m,h,hn=>by
   simp only[dW,Option.some.injEq] at h
   subst h
   simp[aqr] at hn
 | .skip,_,_,_|.region _ _ _,_,_,_|.cond _ _ _,_,_,_|.block _ _,_,_,_|.loop _,_,_,_|.exit _,_,_,_|.ret,_,_,_|.scope _,_,_,_|.goto _,_,_,_|.rangeFunc _ _ _ _,_,_,_|.refuse _,_,_,_=>rfl
section
variable {E:Env} {A R:MC} {st st' : St} {ks:List KF} {Q:Ex→St→Prop} {ι:Type} {id:Nat}
def AQ (E:Env) (ts:List (Nat × Nat × Nat)) (S:Nat→ι→St) (J:ι→Prop) (ks:List KF) (Q:Ex→St→Prop):Ex→St→Prop
 | .normal,st'=>∃ j,J j∧∀ v,LS (nk ts v st') (S v j)
 | .goto _,_=>False
 | e,st'=>XE E e st' ks Q
def SQ (E:Env) (l:Nat) (ts:List (Nat × Nat × Nat)) (S:Nat→ι→St) (J:ι→Prop) (μ:ι→Nat) (i:ι) (ks:List KF) (Q:Ex→St→Prop):Ex→St→Prop
 | .goto l',st'=>l'=l∧∃ j,J j∧μ j<μ i∧∀ v,LS (nk ts v st') (S v j)
 | e,st'=>XE E e st' ks Q
variable {l l' : Nat} {ts:List (Nat × Nat × Nat)} {S:Nat→ι→St} {J:ι→Prop} {μ:ι→Nat} {i:ι}
theorem aK6:SQ E l ts S J μ i ks Q .normal st'=XE E .normal st' ks Q:=propext Iff.rfl
theorem aOs:SQ E l ts S J μ i ks Q (.exit id) st'=XE E (.exit id) st' ks Q:=propext Iff.rfl
theorem aPW:SQ E l ts S J μ i ks Q .ret st'=XE E .ret st' ks Q:=propext Iff.rfl
theorem aO6:SQ E l ts S J μ i ks Q (.goto l') st'=(l'=l∧∃ j,J j∧μ j<μ i∧∀ v,LS (nk ts v st') (S v j)):=propext Iff.rfl
theorem aKX:AQ E ts S J ks Q .normal st'=∃ j,J j∧∀ v,LS (nk ts v st') (S v j):=propext Iff.rfl
theorem aOm:AQ E ts S J ks Q (.exit id) st'=XE E (.exit id) st' ks Q:=propext Iff.rfl
theorem aPN:AQ E ts S J ks Q .ret st'=XE E .ret st' ks Q:=propext Iff.rfl
attribute [simp] aKX aOm aPN
attribute [simp] aK6 aOs aPW aO6
theorem aU.scope (ah:E.P.follows .mixedOrders=true) (ts:List (Nat × Nat × Nat)) (hts:DX ts=true) (l:Nat) (S:Nat→ι→St) (J:ι→Prop) (μ:ι→Nat) (hA:aqr A.erase=true)
 (h1:XC E A st [] (AQ E ts S J ks Q)) (h2:∀ v j,E.V≤v→J j→XC E R (S v j) [] (SQ E l ts S J μ j ks Q)):aU E (.scope (.seq A (.seq (.label l) R))) st ks Q:=by
 intro c hm a w hrel
 obtain⟨x,rfl,hx⟩:=aIQ hm
 obtain⟨ca,cb,rfl,ha,hb⟩:=qx hx
 obtain⟨cl,cr,rfl,hl,hr⟩:=qx hb
 obtain rfl:=aJr hl
 have hfind:findLabel (.seq ca (.seq (.label l) cr)) l=some (.seq .skip cr):=by
  simp[findLabel,amd l ca _ ha hA]
 have hpass:∀ v j a w,E.V≤v→J j→Rel E (S v j) a w→cr.wp E.P (Exit.jump l (fun a' w'=>∃ m,m<μ j∧∃ v' j',E.V≤v'∧J j'∧μ j'=m∧Rel E (S v' j') a' w') (fun e a' w'=>∃ ex st',e=Ex.to ex∧L6 E ks Q ex st'∧Rel E st' a' w')) a w:=fun v j a w hv hj hrel=>by
  refine wp_mono (jg ah cr R (S v j) a w _ hr hrel (h2 v j hv hj)) ?_
  rintro e a' w' ⟨ex,st',rfl,hq,hr'⟩
  cases ex with
  | normal=>exact⟨.normal,st',rfl,hq,hr'⟩
  | exit id=>exact⟨.exit id,st',rfl,hq,hr'⟩
  | ret=>exact⟨.ret,st',rfl,hq,hr'⟩
  | goto l' =>
    obtain⟨e1,j',k1,k2,k3⟩:=hq
    obtain⟨v',hv',hc'⟩:=sw ts hts hr'
    exact⟨e1,μ j',k2,v',j',hv',k1,rfl,(k3 v').le a' w' hc'⟩
 refine axH l (fun n a w=>∃ v j,E.V≤v∧J j∧μ j=n∧Rel E (S v j) a w) hfind ?_ ?_
 ·refine wp_seq (wp_mono (jg ah ca A st a w _ ha hrel h1) ?_)
  rintro e a' w' ⟨ex,st',rfl,hq,hr'⟩
  cases ex with
  | normal =>
    obtain⟨j,k1,k3⟩:=hq
    obtain⟨v,hv,hc'⟩:=sw ts hts hr'
    refine wp_seq (wp_label (wp_mono (hpass v j a' w' hv k1 ((k3 v).le a' w' hc')) ?_))
    rintro e a2 w2 hq2
    cases e with
    | goto l' =>
      obtain⟨e1,m,_,hJm⟩:=hq2
      exact⟨e1,m,hJm⟩
    | _=>exact hq2
  | exit id=>exact⟨.exit id,st',rfl,hq,hr'⟩
  | ret=>exact⟨.ret,st',rfl,hq,hr'⟩
  | goto l'=>exact hq.elim
 ·rintro n a w ⟨v,j,hv,hj,rfl,hrel⟩
  exact wp_seq (wp_skip (hpass v j a w hv hj hrel))
def LX (E:Env) (n:Nat) (S:Nat→St) (id0:Nat) (Sx:St) (k:Nat) (ks:List KF) (Q:Ex→St→Prop):Ex→St→Prop
 | .normal,st'=>k<n∧∀ v,LS (nk [] v st') (S (k+1))
 | .exit j,st'=>j=id0∧∀ v,LS (nk [] v st') Sx
 | e,st'=>XE E e st' ks Q
section
variable {n k id0 j:Nat} {S0:Nat→St} {Sx:St} {body:MC}
theorem aKz:LX E n S0 id0 Sx k ks Q .normal st'=(k<n∧∀ v,LS (nk [] v st') (S0 (k+1))):=propext Iff.rfl
theorem aNZ:LX E n S0 id0 Sx k ks Q (.exit j) st'=(j=id0∧∀ v,LS (nk [] v st') Sx):=propext Iff.rfl
theorem aP0:LX E n S0 id0 Sx k ks Q .ret st'=XE E .ret st' ks Q:=propext Iff.rfl
attribute [simp] aKz aNZ aP0
theorem aU.aQH (ah:E.P.follows .mixedOrders=true) (n:Nat) (S0:Nat→St) (id0:Nat) (Sx:St) (hst:∀ v,LS (nk [] v st) (S0 0)) (hr:∀ k,k≤n→XC E body (S0 k) [] (LX E n S0 id0 Sx k ks Q)) (hx:XE E (.exit id0) Sx ks Q):aU E (.loop body) st ks Q:=by
 intro c hm a w hrel
 obtain⟨x,rfl,hm1⟩:=JD hm
 obtain⟨v0,_,hrel0⟩:=sw [] rfl hrel
 refine wp_loop_ghost (fun m a w=>∃ i,i≤n∧n-i=m∧Rel E (S0 i) a w) n ⟨0,Nat.zero_le _,rfl,(hst v0).le a w hrel0⟩ ?_
 rintro m a w ⟨i,hi,rfl,hri⟩
 refine wp_mono (jg ah x body (S0 i) a w _ hm1 hri (hr i hi)) ?_
 rintro e a' w' ⟨ex,st',rfl,hq,hr'⟩
 obtain⟨v',_,hr2⟩:=sw [] rfl hr'
 cases ex with
 | normal =>
   obtain⟨hlt,h3⟩:=hq
   exact⟨n-(i+1),by omega,i+1,hlt,rfl,(h3 v').le a' w' hr2⟩
 | exit id =>
   obtain⟨rfl,h3⟩:=hq
   exact⟨.exit id,Sx,rfl,hx,(h3 v').le a' w' hr2⟩
 | goto l=>exact⟨.goto l,st',rfl,hq,hr'⟩
 | ret=>exact⟨.ret,st',rfl,hq,hr'⟩
end
end
end Go.Proofs.YtngjnfbngheccaaGreatDoor.Pv
namespace Go.Proofs.YtngjnfbngheccaaGreatDoor.Pv
open Go Go.RowKit Go.Maps
section
variable {E:Env} {st:St} {c:Ctx} {a:Act} {w:World}
theorem x9 {ops:Array Oper} {soft:Bool} {Q:Exit→Act→World→Prop} {K:St→Prop} {l2:List Oper} (hQ:∀ st a w,K st→Rel E st a w→wpList E.P ops Q l2 a w):∀ (l:List Oper) (ms:List MOp) (st:St) (a:Act) (w:World),nU E.P E.nt ops soft l=some ms →
 Rel E st a w→run E ms st K→wpList E.P ops Q (l++l2) a w
 | [],ms,st,a,w,h,hr,hk=>by
   simp only[nU,Option.some.injEq] at h
   subst h
   exact hQ st a w hk hr
 | o::l,ms,st,a,w,h,⟨c,hg⟩,hk=>by
   simp only[nU] at h
   split at h
   ·rename_i m ms' h1 h2
    cases h
    obtain⟨N0,hN0⟩:=hg.bnd
    obtain⟨N,hVN,hN⟩ : ∃ N,E.V≤N∧∀ k,c.U k→k.2<N:=⟨max N0 E.V,Nat.le_max_right _ _,fun k hk=>Nat.lt_of_lt_of_le (hN0 k hk) (Nat.le_max_left _ _)⟩
    have hkey:¬ c.U (m.dst.getD 0,N):=fun hu=>Nat.lt_irrefl _ (hN _ hu)
    have hor:(jM E.P m N st fun _ st'=>run E ms' st' K)∨Inl E m st fun st'=>run E ms' st' K:=by
     simp only[run] at hk
     refine hk.imp (fun hk=>?_) id
     split at hk
     ·exact hk N hVN
     ·rename_i ha
      rw[alS (v':=0) (by simpa using ha)]; exact hk
    rw[List.cons_append]
    unfold wpList
    rcases hor with hs|hinl
    ·obtain⟨s1,s2⟩:=agr hg h1 hkey hs
     split
     ·rename_i hw
      refine .inl (Runs.wp ((s1 hw).mono ?_))
      rintro u w' ⟨_,st',c',hK,hg',_⟩
      exact x9 hQ l ms' st' _ w' h2 ⟨c',hg'⟩ hK
     ·rename_i hw
      obtain⟨_,st',c',hK,hg',_⟩:=s2 (by simpa using hw)
      exact x9 hQ l ms' st' _ w h2 ⟨c',hg'⟩ hK
    ·obtain⟨s1,s2⟩:=azz hg h1 hinl
     split
     ·rename_i hw
      refine .inl (Runs.wp ((s1 hw).mono ?_))
      rintro u w' ⟨st',c',hK,hg'⟩
      exact x9 hQ l ms' st' _ w' h2 ⟨c',hg'⟩ hK
     ·rename_i hw
      obtain⟨st',c',hK,hg'⟩:=s2 (by simpa using hw)
      exact x9 hQ l ms' st' _ w h2 ⟨c',hg'⟩ hK
   ·cases h
theorem arA {P:Program} {nt:Nat} {ops:Array Oper} {soft:Bool}:∀ {ms1 ms2:List MOp} {l:List Oper},nU P nt ops soft l=some (ms1++ms2)→∃ l1 l2,l=l1++l2∧nU P nt ops soft l1=some ms1∧nU P nt ops soft l2=some ms2
 | [],ms2,l,h=>⟨[],l,rfl,rfl,h⟩
 | m::ms1,ms2,l,h=>by
   cases l with
   | nil=>simp[nU] at h
   | cons o l =>
     simp only[nU] at h
     split at h
     ·rename_i m' ms' h1 h2
      simp only[List.cons_append,Option.some.injEq,List.cons.injEq] at h
      obtain⟨rfl,rfl⟩:=h
      obtain⟨l1,l2,e,k1,k2⟩:=arA h2
      exact⟨o::l1,l2,by rw[e]; rfl,by simp only[nU,h1,k1],k2⟩
     ·cases h
theorem Za {P:Program} {nt:Nat} {ops:Array Oper} {soft:Bool} {m:MOp} {ms:List MOp} {l:List Oper} (h:nU P nt ops soft l=some (m::ms)):∃ o l',l=o::l'∧adV P nt ops soft o=some m∧nU P nt ops soft l'=some ms:=by
 cases l with
 | nil=>simp[nU] at h
 | cons o l =>
   simp only[nU] at h
   split at h
   ·rename_i m' ms' h1 h2
    simp only[Option.some.injEq,List.cons.injEq] at h
    obtain⟨rfl,rfl⟩:=h
    exact⟨o,l,rfl,h1,h2⟩
   ·cases h
theorem azq {P:Program} {nt:Nat} {ops:Array Oper} {soft:Bool} {l:List Oper} (h:nU P nt ops soft l=some []):l=[]:=by
 cases l with
 | nil=>rfl
 | cons o l =>
   simp only[nU] at h
   split at h<;>cases h
theorem asr {P:Program} {nt:Nat} {c:Code} {ms:List MOp} (h:dW P nt c=some (.reg ms)):∃ id ops,c=.region id ops false∧nU P nt ops (aNT P nt ops) ops.toList=some ms:=by
 cases c with
 | region i ops d =>
   simp only[dW] at h
   split at h
   ·rename_i ms' hops
    split at h
    ·split at h<;>cases h
    ·rename_i hd
     cases h
     exact⟨i,ops,by simp at hd; rw[hd],hops⟩
   ·cases h
 | seq x y=>simp only[dW] at h; split at h<;>cases h
 | cond q x y=>simp only[dW] at h; split at h<;>cases h
 | loop x=>simp[dW] at h
 | block id x=>simp[dW] at h
 | scope x=>simp[dW] at h
 | _=>simp[dW] at h
theorem agx {P:Program} {nt id:Nat} {c:Code} {m:MC} (h:dW P nt c=some (.block id m)):∃ x,c=.block id x∧dW P nt x=some m:=by
 cases c with
 | block i x =>
   simp only[dW,Option.map_eq_some_iff,MC.block.injEq] at h
   obtain⟨m',h1,rfl,rfl⟩:=h
   exact⟨x,rfl,h1⟩
 | region i ops d=>rcases aee h with ⟨_,h⟩|⟨_,_,h⟩<;>cases h
 | seq x y=>simp only[dW] at h; split at h<;>cases h
 | cond q x y=>simp only[dW] at h; split at h<;>cases h
 | loop x=>simp[dW] at h
 | scope x=>simp[dW] at h
 | _=>simp[dW] at h
theorem aMo {P:Program} {nt:Nat} {o:Oper} {t:TypeId} {m k x:MO} (hi:toI P nt o=some (.mset t m k x)):∃ om ok ox,o.op=.mapUpdate t om ok ox∧toO P nt 0 om=some m∧toO P nt 0 ok=some k∧toO P nt 0 ox=some x:=by
 cases ho:o.op with
 | mapUpdate t' om ok ox =>
   simp only[toI,ho] at hi
   split at hi
   ·rename_i h1 h2 h3
    simp only[Option.some.injEq,MI.mset.injEq] at hi
    obtain⟨rfl,rfl,rfl,rfl⟩:=hi
    exact⟨om,ok,ox,rfl,h1,h2,h3⟩
   ·cases hi
 | makeFunc f a b =>
   cases f<;>simp only[toI,ho] at hi
   all_goals (first|(cases hi; done)|skip)
   all_goals (repeat' split at hi)
   all_goals (first|(cases hi; done)|(simp at hi; done))
 | _ =>
   simp only[toI,ho] at hi
   repeat' split at hi
   all_goals (first|(cases hi; done)|(simp at hi; done))
theorem aOL {P:Program} {nt:Nat} {o:Oper} {t:TypeId} (hi:toI P nt o=some (.mmk t)):o.op=.makeMap t none:=by
 cases ho:o.op with
 | makeMap t' r =>
   simp only[toI,ho] at hi
   split at hi
   ·rename_i hr
    simp only[Option.some.injEq,MI.mmk.injEq] at hi
    subst hi
    cases r with
    | none=>rfl
    | some r=>cases hr
   ·cases hi
 | makeFunc f a b =>
   cases f<;>simp only[toI,ho] at hi
   all_goals (first|(cases hi; done)|skip)
   all_goals (repeat' split at hi)
   all_goals (first|(cases hi; done)|(simp at hi; done))
 | _ =>
   simp only[toI,ho] at hi
   repeat' split at hi
   all_goals (first|(cases hi; done)|(simp at hi; done))
end
structure aJf (P:Program) (tm kt et:TypeId):Prop where
 tm:P.underlying tm=some (.map kt et)
 kt:P.underlying kt=some .string
 et:P.underlying et=some (.int .i64)
def agN (P:Program) (kt et:TypeId) (w:World) (b n:Nat) (ks:List ByteArray):Prop :=
 ∃ es:List (Lit × DataW Unit),w.ownsMap P kt (plainElem P et) b n (.map es)∧(∀ p∈es,∃ x,p.1=Lit.string x)∧(∀ x,(∃ p∈es,p.1=Lit.string x)↔∃ s∈ks,s.data.toList=x)∧∀ s∈ks,s.size≤LIM
theorem agN.block {P:Program} {kt et:TypeId} {w w' : World} {b n:Nat} {ks:List ByteArray} (h:agN P kt et w b n ks) (hb:w'.heap[b]? = w.heap[b]?):agN P kt et w' b n ks:=by
 obtain⟨D,⟨es,clock,h1,h2⟩,h3⟩:=h
 exact⟨D,⟨es,clock,hb.trans h1,h2⟩,h3⟩
theorem mem_insert {H:Type} (p q:Lit × DataW H):∀ l:List (Lit × DataW H),q∈DataW.insert p l↔q=p∨q∈l
 | []=>by simp[DataW.insert]
 | y::r=>by
   unfold DataW.insert
   split
   ·simp
   ·simp only[List.mem_cons,mem_insert p q r]
    constructor
    ·rintro (h|h|h)<;>simp[h]
    ·rintro (h|h|h)<;>simp[h]
theorem aIr {es:List (Lit × DataW Unit)} {s:List UInt8} {d:DataW Unit} {p:Lit × DataW Unit}:p∈ChangeMaps.putKey (.string s) d es→p=(.string s,d)∨p∈es:=fun hp=>by
 unfold ChangeMaps.putKey at hp
 rcases (mem_insert _ _ _).1 hp with h|h
 ·exact .inl h
 ·exact .inr (List.mem_filter.1 h).1
theorem aOJ (es:List (Lit × DataW Unit)) (s:List UInt8) (d:DataW Unit) (x:List UInt8):(∃ p∈ChangeMaps.putKey (.string s) d es,p.1=Lit.string x)↔x=s∨∃ p∈es,p.1=Lit.string x:=by
 constructor
 ·rintro⟨p,hp,e⟩
  rcases aIr hp with rfl|hp
  ·exact .inl (Lit.string.inj e).symm
  ·exact .inr ⟨p,hp,e⟩
 ·rintro (rfl|⟨p,hp,e⟩)
  ·exact⟨_,(mem_insert _ _ _).2 (.inl rfl),rfl⟩
  ·by_cases hk:p.1.sameKey (.string s)=true
   ·have h:=WideAt.sameKey_eq hk
    exact⟨_,(mem_insert _ _ _).2 (.inl rfl),by rw[← e,h]⟩
   ·exact⟨p,(mem_insert _ _ _).2 (.inr (List.mem_filter.2 ⟨hp,by simpa[ChangeMaps.notKey] using hk⟩)),e⟩
theorem agN.nodup {P:Program} {kt et:TypeId} (hk:P.underlying kt=some .string) {w:World} {b n:Nat} {es:List (Lit × DataW Unit)} (h:w.ownsMap P kt (plainElem P et) b n (.map es)) (hs:∀ p∈es,∃ x,p.1=Lit.string x):(strKeys (.map es)).Nodup:=by
 obtain⟨es',e,hp,_⟩:=h.canon (string_keyed hk)
 obtain rfl:es=es':=by cases e; rfl
 show (es.map fun p=>strOf p.1).Nodup
 refine List.pairwise_map.2 ((apart_of_rising hp).imp_of_mem fun {p q} hp' hq' hne e=>hne ?_)
 obtain⟨x,hx⟩:=hs p hp'
 obtain⟨y,hy⟩:=hs q hq'
 rw[hx,hy] at e ⊢
 simpa[strOf] using e
structure aPm (P:Program) (w0:World) (F0:Nat→Prop) (b b2:Nat) (o2:Option Obj) (w1:World) (F1:Nat→Prop):Prop where
 size:w1.heap.size=b+1
 lt:b2<b
 ge:w0.heap.size≤b2
 bel:Bel w0.heap.size w0 w1
 in0:∀ x,F1 x→F0 x∨w0.heap.size≤x
 of0:∀ x,F0 x→F1 x
 lt0:∀ x,F0 x→x<w0.heap.size
 nb:¬ F1 b
 nb2:¬ F1 b2
 blk2:w1.heap[b2]? = o2
def wo (P:Program) (kt et:TypeId) (w0:World) (F0:Nat→Prop) (nt b b2:Nat) (o2:Option Obj) (n:Nat) (ks:List ByteArray) (st:St) (a:Act) (w:World):Prop :=
 ∃ w1 F1 hG,aPm P w0 F0 b b2 o2 w1 F1∧agN P kt et w1 b n ks∧Rel ⟨P,w1,F1,nt,[],0,hG⟩ st a w
section
variable {P:Program} {tm kt et:TypeId} {w0:World} {F0:Nat→Prop} {nt b b2:Nat} {o2:Option Obj} {n:Nat} {ks:List ByteArray} {st st' : St} {a:Act} {w:World}
theorem wo.ls (h:wo P kt et w0 F0 nt b b2 o2 n ks st a w) (hl:LS st st'):wo P kt et w0 F0 nt b b2 o2 n ks st' a w:=by
 obtain⟨w1,F1,hG,h1,h2,h3⟩:=h
 exact⟨w1,F1,hG,h1,h2,hl.le a w h3⟩
theorem wo.canon (ts:List (Nat × Nat × Nat)) (hts:DX ts=true) (h:wo P kt et w0 F0 nt b b2 o2 n ks st a w):∃ v,wo P kt et w0 F0 nt b b2 o2 n ks (nk ts v st) a w:=by
 obtain⟨w1,F1,hG,h1,h2,h3⟩:=h
 obtain⟨v,_,hr⟩:=sw ts hts h3
 exact⟨v,w1,F1,hG,h1,h2,hr⟩
theorem wo.run (ah:P.follows .mixedOrders=true) {c:Code} {m:MC} {Q:Ex→St→Prop} (hm:dW P nt c=some m.erase) (h:wo P kt et w0 F0 nt b b2 o2 n ks st a w) (hx:∀ w1 F1 hG,XC ⟨P,w1,F1,nt,[],0,hG⟩ m st [] Q) :
 c.wp P (fun e a' w'=>∃ ex st',e=Ex.to ex∧Q ex st'∧wo P kt et w0 F0 nt b b2 o2 n ks st' a' w') a w:=by
 obtain⟨w1,F1,hG,h1,h2,h3⟩:=h
 refine wp_mono (jg (E:=⟨P,w1,F1,nt,[],0,hG⟩) ah c m st a w _ hm h3 (hx w1 F1 hG)) ?_
 rintro e a' w' ⟨ex,st',rfl,hq,hr'⟩
 exact⟨ex,st',rfl,hq,w1,F1,hG,h1,h2,hr'⟩
theorem wo.at (h:wo P kt et w0 F0 nt b b2 o2 n ks st a w):agN P kt et w b n ks:=by
 obtain⟨w1,F1,hG,h1,h2,c,hg⟩:=h
 exact h2.block (hg.below.block b (by show b<w1.heap.size; rw[h1.size]; omega))
theorem wo.bnd (h:wo P kt et w0 F0 nt b b2 o2 n ks st a w):(∀ t,t<nt→jh (lk t st.s)):=by
 obtain⟨w1,F1,hG,h1,h2,h3⟩:=h
 exact h3.bnd.1
theorem wo.set (hT:aJf P tm kt et) {ops:Array Oper} {soft:Bool} {o:Oper} {m k x:MO} {l:List Oper} {Q:Exit→Act→World→Prop} (hm:adV P nt ops soft o=some ⟨none,.mset tm m k x,none,false⟩) (h:wo P kt et w0 F0 nt b b2 o2 n ks st a w)
 {s:ByteArray} {i:Int} (gm:st.get m=.raw (.map (some b))) (gk:st.get k=.str s) (gx:st.get x=.int .i64 i) (hn:n<maxLen)
 (hK:∀ w',wo P kt et w0 F0 nt b b2 o2 (n+1) (s::ks) st a w'→wpList P ops Q l a w'):wpList P ops Q (o::l) a w:=by
 obtain⟨hi,hdst,hgd⟩:=Pq hm
 obtain⟨om,ok,ox,ho,t1,t2,t3⟩:=aMo (hi.resolve_right (by simp))
 have hg0:o.guard=none:=by
  rcases hgd with ⟨h1,_⟩|⟨j,want,t,_,_,_,h4⟩
  ·exact h1
  ·cases h4
 have hmap:=h.at
 obtain⟨w1,F1,hG,h1,h2,c,hg⟩:=h
 have r1:a.eval om=.map (some b):=by have:=hg.get (E:=⟨P,w1,F1,nt,[],0,hG⟩) t1; rw[gm] at this; exact this
 have r2:bq w c (.str s) (a.eval ok):=by have:=hg.get (E:=⟨P,w1,F1,nt,[],0,hG⟩) t2; rw[gk] at this; exact this
 have r3:bq w c (.int .i64 i) (a.eval ox):=by have:=hg.get (E:=⟨P,w1,F1,nt,[],0,hG⟩) t3; rw[gx] at this; exact this
 obtain⟨r2,r2'⟩:=r2
 obtain⟨r3,r3',r3''⟩:=r3
 obtain⟨D,hown,hstr,hkeys,hlim⟩:=hmap
 have hkey:keyOf P kt (.string s)=some (.string s.data.toList):=WideMaps.keyOf_string_mk hT.kt (by unfold LIM at r2'; unfold maxLen; omega)
 have hval:plainElem (H:=Unit) P et (.int .i64 i)=some (.lit (.int .i64 i),[]):=plainElem_int hT.et (by simp only[Lit.wf,Bool.and_eq_true,decide_eq_true_eq]; exact⟨r3',r3''⟩)
 obtain⟨w',hrun,hown',hgr⟩:=hown.update (string_keyed hT.kt) hT.tm hn hkey hval
 have hput:a.put o.dst undef=a:=by rw[← hdst]; rfl
 have hcell:∀ (cs:Array Value) (el:TypeId) (fr:Nat × Nat),w.heap[b]?≠some (.cells cs el fr):=fun cs el fr hc=>by
  obtain⟨es,clock,hb,_⟩:=hown
  rw[hb] at hc; cases hc
 have hnb:¬ c.Fz b:=fun hf=>by
  rcases (hg.fz b hf).2 with h|h
  ·exact h1.nb h
  ·have:w1.heap.size≤b:=h
   have:=h1.size
   omega
 have hnb2:¬ c.Fz b2:=fun hf=>by
  rcases (hg.fz b2 hf).2 with h|h
  ·exact h1.nb2 h
  ·have:w1.heap.size≤b2:=h
   have:=h1.lt
   have:=h1.size
   omega
 have hbw:b<w.heap.size:=by
  obtain⟨es,clock,hb,_⟩:=hown
  exact (Array.getElem?_eq_some_iff.1 hb).1
 have hsame:∀ j,j≠b→j<w.heap.size→w'.heap[j]? = w.heap[j]? := fun j hj hlt=>hgr.block j hlt (fun e=>hj (Option.some.inj e))
 have hmono:d9 c.Fz w w':=⟨hgr.size,fun j hj=>hsame j (fun e=>hnb (e ▸ hj)) (hg.fz j hj).1,fun j cs el fr hj=>by
  by_cases e:j=b
  ·subst e; exact absurd hj (hcell cs el fr)
  ·exact⟨cs,fr,(hsame j e (Array.getElem?_eq_some_iff.1 hj).1).trans hj,rfl⟩⟩
 have hown1:∀ k e ad,hk k st.h=some e→c.β k=some ad→b+1≤ad.block∧w'.heap[ad.block]? = w.heap[ad.block]? := fun k e ad he had=>by
  obtain⟨f1,f2⟩:=hg.fresh k e ad he had
  have f1' : w1.heap.size≤ad.block:=f1
  rw[h1.size] at f1'
  exact⟨f1',hsame _ (by omega) f2⟩
 have hBw:b+1≤w'.heap.size:=by have:=hgr.size; omega
 have hgn:=hg.aPf (w':=w') (B:=b+1) (by show w1.heap.size≤_; rw[h1.size]; exact Nat.le_refl _) hBw hmono hown1
 have hstep:∀ j,j<b→w'.heap[j]? = w1.heap[j]? := fun j hj=>by
  rw[hsame j (by omega) (by omega)]
  exact hg.below.block j (by show j<w1.heap.size; rw[h1.size]; omega)
 refine wpList_plain hg0 fun K hKK=>?_
 unfold Oper.wp
 simp[execOp,ho,r1,r2,r3,hrun,Result.andThen]
 show K (a.put o.dst undef) w'
 rw[hput]
 refine hKK _ _ (hK w' ⟨trunc w' (b+1),fun x=>c.Fz x∧x<b+1,_,?_,?_,c,hgn⟩)
 ·refine⟨vw hBw,h1.lt,h1.ge,?_,fun x hx=>?_,fun x hx=>?_,h1.lt0,fun hx=>hnb hx.1,fun hx=>hnb2 hx.1,?_⟩
  ·have e1:=hg.below.below
   have e1' : Below w1.heap.size w1 w:=e1
   have hge:=h1.ge
   have hlt:=h1.lt
   refine Bel.of ⟨?_,?_,?_,?_,fun j hj=>?_⟩
   ·show w'.os=_
    rw[hgr.os,e1'.os,h1.bel.below.os]
   ·show w'.tape=_
    rw[hgr.tape,e1'.tape,h1.bel.below.tape]
   ·show w'.output=_
    rw[hgr.output,e1'.output,h1.bel.below.output]
   ·rw[vw hBw]; omega
   ·rw[Jr _ _ (by omega),hstep j (by omega),h1.bel.block j hj]
  ·rcases (hg.fz x hx.1).2 with h|h
   ·exact h1.in0 x h
   ·have:w1.heap.size≤x:=h
    have:=hx.2
    have:=h1.size
    have:=h1.ge
    have:=h1.lt
    omega
  ·exact⟨hg.le x (h1.of0 x hx),by have:=h1.lt0 x hx; have:=h1.ge; have:=h1.lt; omega⟩
  ·rw[Jr _ _ (by have:=h1.lt; omega),hstep b2 h1.lt,h1.blk2]
 ·refine⟨ChangeMaps.putKey (.string s.data.toList) (.lit (.int .i64 i)) D,?_,fun p hp=>?_,fun x=>?_,fun x hx=>?_⟩
  ·obtain⟨es,clock,hb,hrest⟩:=hown'
   exact⟨es,clock,by rw[Jr _ _ (by omega)]; exact hb,hrest⟩
  ·rcases aIr hp with rfl|hp
   ·exact⟨_,rfl⟩
   ·exact hstr p hp
  ·rw[aOJ,hkeys]
   simp only[List.mem_cons]
   constructor
   ·rintro (rfl|⟨s',hs',rfl⟩)
    ·exact⟨s,.inl rfl,rfl⟩
    ·exact⟨s',.inr hs',rfl⟩
   ·rintro⟨s',rfl|hs',rfl⟩
    ·exact .inl rfl
    ·exact .inr ⟨s',hs',rfl⟩
  ·rcases List.mem_cons.1 hx with rfl|hx
   ·exact r2'
   ·exact hlim x hx
end
end Go.Proofs.YtngjnfbngheccaaGreatDoor.Pv
namespace Go.Proofs.YtngjnfbngheccaaGreatDoor.Pv
open Go Go.RowKit Go.Maps
def agz (P:Program) (tm kt et:TypeId) (fK fS:FuncId):Prop:=callable P fK=true∧callable P fS=true∧aJf P tm kt et ∧
 ∀ (w:World) (b n:Nat) (es:List (Lit × DataW Unit)),w.ownsMap P kt (plainElem P et) b n (.map es)→es.length≤34359738368 →
   Calls P fK #[.map (some b)] w fun e w'=>∃ v,e=.returned v∧Below w.heap.size w w' ∧
    Calls P fS #[v] w' fun e2 w2=>∃ (u:Value) (ss:List (List UInt8)),e2=.returned u∧ss.Perm (strKeys (.map es))∧w2.ownsRow w'.heap.size kt 1 u ss.length ((ss.mergeSort fun x y=>decide (x≤y)).map fun x=>Value.string ⟨x.toArray⟩)∧Below w'.heap.size w' w2
theorem aIj {w w' : World} {c c' : Ctx} {b:Nat} (hb:w'.heap[b]? = w.heap[b]?):∀ {o:Nat} {xs:List PV},YW xs=true→dX w c b o xs→dX w' c' b o xs
 | _,[],_,_=>trivial
 | o,x::xs,hl,h=>by
   simp only[YW,Bool.and_eq_true] at hl
   obtain⟨⟨v,e,e1,h1⟩,h2⟩:=h
   exact⟨⟨v,(cell_of_heap hb o).trans e,e1,aGp x v hl.1 h1⟩,aIj hb hl.2 h2⟩
def aMU (b2 off:Nat) (o2:Option Obj) (z:List PV):Prop:=∃ (cs:Array Value) (el:TypeId) (fr:Nat × Nat),o2=some (.cells cs el fr)∧off+z.length≤cs.size∧(∀ o,o<cs.size→¬ (fr.1≤o∧o<fr.2))∧∀ (w:World) (c:Ctx),w.heap[b2]? = o2→dX w c b2 off z
section
variable {P:Program} {tm kt et:TypeId} {w0:World} {F0:Nat→Prop} {hG0:GOk P w0 F0} {nt:Nat} {a:Act} {w:World}
theorem ayc {a:Act} {d t:Nat} {v:Value} (h:t≠d):(a.put (some d) v).tmps[t]? = a.tmps[t]? := by
 simp only[Act.put,Array.getElem?_setIfInBounds]
 rw[if_neg (fun e=>h e.symm)]
theorem awz {a:Act} {d:Nat} {v:Value} (h:d<a.tmps.size):(a.put (some d) v).tmps[d]? = some v:=by
 simp[Act.put,Array.getElem?_setIfInBounds,h]
theorem aJV {ops:Array Oper} {soft:Bool} {Q:Exit→Act→World→Prop} {d1 d2 v2:Nat} {z:List PV} {x0:PV} {l:List Oper} (hF0:∀ x,F0 x→x<w0.heap.size) (hd1:d1≠2∧d1≠0) (hd2:d2≠2∧d2≠0) (hz:YW z=true) (hz0:0<z.length) (hx0:kfV x0=true)
 (hl:nU P nt ops soft l=some [⟨some d1,.mmk tm,none,false⟩,⟨some d2,.mv (.t d1),none,false⟩])
 (h:Rel ⟨P,w0,F0,nt,[],0,hG0⟩ ⟨[(2,.ptr (2,v2) z.length 0 0),(0,x0)],[((2,v2),some ⟨z.length,[z],false,true⟩)]⟩ a w)
 (hK:∀ b b2 off o2 a' w',aMU b2 off o2 z→wo P kt et w0 F0 nt b b2 o2 0 [] ⟨[(d2,.raw (.map (some b))),(2,.raw (.pointer (some ⟨b2,off,none⟩))),(0,x0)],[]⟩ a' w'→Q .normal a' w'):wpList P ops Q l a w:=by
 obtain⟨o1,l1,rfl,m1,hl1⟩:=Za hl
 obtain⟨o2',l2,rfl,m2,hl2⟩:=Za hl1
 obtain rfl:=azq hl2
 obtain⟨c,hg⟩:=h
 obtain⟨hi1,hdst1,hgd1⟩:=Pq m1
 have ho1:=aOL (hi1.resolve_right (by simp))
 have hg1:o1.guard=none:=by
  rcases hgd1 with ⟨h1,_⟩|⟨j,want,t,_,_,_,h4⟩
  ·exact h1
  ·cases h4
 have hdst1' : o1.dst=some d1:=hdst1.symm
 have hlt1:d1<nt:=by
  unfold adV at m1
  rw[hdst1'] at m1
  simp only at m1
  split at m1
  ·cases m1
  ·rename_i hh; simpa using hh
 obtain⟨g1,g2,g3⟩:=hg.heap (2,v2) ⟨z.length,[z],false,true⟩ (by simp[hk])
 have hslot2:∀ v,a.tmps[2]? = some v→∃ ad,c.β (2,v2)=some ad∧v=.pointer (some ⟨ad.block,ad.off,none⟩):=fun v hv=>by
  have:=hg.slot 2 v hv
  simp only[lk,if_true] at this
  obtain⟨_,_,ad,h1,h2⟩:=this
  exact⟨ad,h1,by simpa using h2⟩
 have hβ:∃ ad,c.β (2,v2)=some ad:=by
  cases hb:c.β (2,v2) with
  | some ad=>exact⟨ad,rfl⟩
  | none=>rw[hb] at g3; simp at g3
 obtain⟨ad,had⟩:=hβ
 rw[had] at g3
 obtain⟨b1,⟨cs,el,fr,b3,b4,b5⟩,b6,b7⟩:=g3
 obtain⟨f1,f2⟩:=hg.fresh (2,v2) _ ad (by simp[hk]; rfl) had
 have f1' : w0.heap.size≤ad.block:=f1
 obtain⟨b,hb⟩ : ∃ b,b=w.heap.size:=⟨_,rfl⟩
 obtain⟨W,hW⟩ : ∃ W,W=w.alloc (.map #[] 0):=⟨_,rfl⟩
 have hWs:W.heap.size=b+1:=by rw[hW,hb]; simp
 have hWb:∀ j,j<b→W.heap[j]? = w.heap[j]? := fun j hj=>by rw[hW]; exact Below.heap_alloc _ _ _ (by omega)
 have hmono:d9 c.Fz w W:=by rw[hW]; exact auy (fun j hj=>(hg.fz j hj).1) _
 have hblk:aMU ad.block ad.off (some (.cells cs el fr)) z:=by
  refine⟨cs,el,fr,rfl,by simpa using b4,b5,fun w' c' hw'=>?_⟩
  have h0:dX w c ad.block ad.off z:=by
   have:=b6
   simp only[if_true] at this
   exact this.2.1
  exact aIj (by rw[hw',b3]) hz h0
 have hnF:¬ c.Fz ad.block:=fun hf=>by simpa using b7.1 hf
 have hbel:Bel w0.heap.size w0 W:=by
  have h1:Bel w0.heap.size w0 w:=hg.below
  have h2:=hg.below.size
  have h2' : w0.heap.size≤w.heap.size:=h2
  refine Bel.of (h1.below.trans ?_)
  rw[hW]
  exact (Below.refl _ w).alloc h2' _
 refine wpList_plain hg1 fun K1 hK1=>?_
 unfold Oper.wp
 simp[execOp,ho1,run_makeMap,Result.andThen]
 show K1 (a.put o1.dst (.map (some w.heap.size))) (w.alloc (.map #[] 0))
 rw[hdst1',← hW,← hb]
 refine hK1 _ _ ?_
 have htr:trunc W (b+1)=trunc W (b+1):=rfl
 have hgok:GOk P (trunc W (b+1)) (fun x=>c.Fz x∧x<b+1):=by
  have hBB:w0.heap.size≤b+1:=by have:=hbel.size; omega
  exact hg.gok (w':=W) (B:=b+1) hBB (by omega) hmono
 have hslots:∀ t v,(a.put (some d1) (.map (some b))).tmps[t]? = some v→bq W (GY c.Fz) (lk t [(d1,PV.raw (.map (some b))),(2,.raw (.pointer (some ⟨ad.block,ad.off,none⟩))),(0,x0)]) v:=fun t v hv=>by
  simp only[lk]
  by_cases e1:t=d1
  ·rw[if_pos e1]
   subst e1
   rw[awz (by rw[hg.size]; exact hlt1)] at hv
   exact (Option.some.inj hv).symm
  ·rw[if_neg e1]
   rw[ayc e1] at hv
   by_cases e2:t=2
   ·rw[if_pos e2]
    subst e2
    obtain⟨ad',h1,h2⟩:=hslot2 v hv
    rw[had] at h1
    obtain rfl:=Option.some.inj h1
    exact h2
   ·rw[if_neg e2]
    by_cases e3:t=0
    ·rw[if_pos e3]
     subst e3
     have:=hg.slot 0 v hv
     simp only[lk] at this
     have h2:=akd x0 v hx0 (by simpa using this)
     exact bq.mono x0 v (c:=c.d) (c':=GY c.Fz) hmono ⟨fun _ h=>h.elim,fun _ h=>h.elim,fun _ h=>h.elim,fun _ h=>h⟩ h2
    ·rw[if_neg e3]; trivial
 have hgood:Good ⟨P,trunc W (b+1),fun x=>c.Fz x∧x<b+1,nt,[],0,hgok⟩ ⟨[(d1,.raw (.map (some b))),(2,.raw (.pointer (some ⟨ad.block,ad.off,none⟩))),(0,x0)],[]⟩ (GY c.Fz) (a.put (some d1) (.map (some b))) W :=
  {defers:=hg.defers
   size:=by rw[show (a.put (some d1) (.map (some b))).tmps.size=a.tmps.size by simp[Act.put]]; exact hg.size
   slot:=hslots
   heap:=fun k e he=>by simp[hk] at he
   fresh:=fun k e ad he _=>by simp[hk] at he
   apart:=fun k k' e e' ad ad' he _ _ _ _=>by simp[hk] at he
   fz:=fun x hx=>⟨Nat.lt_of_lt_of_le (hg.fz x hx).1 hmono.size,by
    rcases Nat.lt_or_ge x (b+1) with h|h
    ·exact .inl ⟨hx,h⟩
    ·right; show (trunc W (b+1)).heap.size≤x; rw[vw (by omega)]; exact h⟩
   le:=fun x hx=>hx.1
   bnd:=⟨0,fun k hk=>hk.elim⟩
   below:=by show Bel (trunc W (b+1)).heap.size (trunc W (b+1)) W; rw[vw (by omega)]; exact aq8 W (b+1) (by omega)
   ghost:=fun p hp=>by cases hp }
 have henv:aPm P w0 F0 b ad.block (some (.cells cs el fr)) (trunc W (b+1)) (fun x=>c.Fz x∧x<b+1):=by
  refine⟨vw (by omega),by omega,f1',?_,fun x hx=>?_,fun x hx=>?_,hF0,fun hx=>?_,fun hx=>hnF hx.1,?_⟩
  ·refine Bel.of ⟨hbel.below.os,hbel.below.tape,hbel.below.output,?_,fun j hj=>?_⟩
   ·rw[vw (by omega)]; omega
   ·rw[Jr _ _ (by omega)]; exact hbel.block j hj
  ·rcases (hg.fz x hx.1).2 with h|h
   ·exact .inl h
   ·exact .inr h
  ·exact⟨hg.le x hx,by have:=hF0 x hx; omega⟩
  ·have:=(hg.fz b hx.1).1; omega
  ·rw[Jr _ _ (by omega),hWb _ (by omega)]; exact b3
 have hmap:agN P kt et (trunc W (b+1)) b 0 []:=by
  refine agN.block (w:=W) ⟨[],?_,by simp,by simp,by simp⟩ (Jr _ _ (by omega))
  rw[hW,hb]
  exact World.ownsMap_made w P kt (plainElem P et)
 have hrel:Rel ⟨P,trunc W (b+1),fun x=>c.Fz x∧x<b+1,nt,[],0,hgok⟩ _ _ _:=⟨_,hgood⟩
 have:=x9 (E:=⟨P,trunc W (b+1),fun x=>c.Fz x∧x<b+1,nt,[],0,hgok⟩) (ops:=ops) (soft:=soft) (Q:=Q) (l2:=[]) (K:=fun st'=>st'=⟨[(d2,.raw (.map (some b))),(d1,.raw (.map (some b))),(2,.raw (.pointer (some ⟨ad.block,ad.off,none⟩))),(0,x0)],[]⟩)
  (fun st' a' w' hst hr'=>by
   subst hst
   refine hK b ad.block ad.off _ a' w' hblk ⟨_,_,hgok,henv,hmap,LS.le (st:=⟨[(d2,.raw (.map (some b))),(d1,.raw (.map (some b))),(2,.raw (.pointer (some ⟨ad.block,ad.off,none⟩))),(0,x0)],[]⟩) ?_ a' w' hr'⟩
   rw[aNP]
   refine⟨?_,by trivial⟩
   by_cases e:d2=d1
   ·subst e; simp[apW,leV,lk,hd1.1,hd1.2,hd2.1,hd2.2,Ne.symm hd1.1,Ne.symm hd1.2]
    exact aty _ _
   ·simp[apW,leV,lk,hd1.1,hd1.2,hd2.1,hd2.2,Ne.symm hd1.1,Ne.symm hd1.2,Ne.symm hd2.1,Ne.symm hd2.2]
    exact aty _ _) [o2'] _ _ _ _ hl1 hrel (by
   show XR _ [⟨some d2,.mv (.t d1),none,false⟩] _ [] (fun _ st'=>st'=_)
   simp)
 simpa using this
theorem aQc {P:Program} {nt:Nat} {t:TypeId} {x:Operand} {n:Nat} (h:toO P nt t x=some (.t n)):x=.tmp n∧n<nt:=by
 cases x with
 | tmp m =>
   simp only[toO] at h
   split at h
   ·rename_i hm
    cases h
    exact⟨rfl,hm⟩
   ·cases h
 | const v =>
   simp only[toO,Option.map_eq_some_iff] at h
   obtain⟨y,_,h⟩:=h
   cases h
 | func f=>simp[toO] at h
 | global g =>
   simp only[toO,Option.map_eq_some_iff] at h
   obtain⟨y,_,h⟩:=h
   cases h
theorem aDs {P:Program} {nt:Nat} {ts:List TypeId} {xs:List Operand} {m:MO} (h:Kr P nt ts xs=some [m]):∃ x,xs=[x]∧toO P nt (ts.headD 0) x=some m:=by
 match xs,h with
 | [],h=>simp[Kr] at h
 | [x],h =>
   simp only[Kr] at h
   split at h
   ·rename_i y ys h1 h2
    simp only[Option.some.injEq,List.cons.injEq] at h
    rw[← h.1]
    exact⟨x,rfl,h1⟩
   ·cases h
 | x::y::r,h =>
   unfold Kr at h
   split at h
   ·rename_i y' ys h1 h2
    simp only[Option.some.injEq,List.cons.injEq] at h
    obtain⟨_,rfl⟩:=h
    unfold Kr at h2
    split at h2<;>cases h2
   ·cases h
theorem azj {α:Type} [DecidableEq α]:∀ {l m:List α},l.Nodup→(∀ x∈l,x∈m)→l.length≤m.length
 | [],_,_,_=>by simp
 | x::l,m,hn,hs=>by
   rw[List.nodup_cons] at hn
   have hx:=hs x (by simp)
   have:=azj (l:=l) (m:=m.erase x) hn.2 (fun y hy=>(List.mem_erase_of_ne (fun e=>hn.1 (by rw[← e]; exact hy))).2 (hs y (by simp[hy])))
   rw[List.length_erase_of_mem hx] at this
   have:0<m.length:=List.length_pos_of_mem hx
   simp; omega
theorem aB0 {ss:List (List UInt8)} (h:ss.Nodup):(ss.mergeSort fun x y=>decide (x≤y)).Pairwise (· < ·):=by
 have h1:=List.pairwise_mergeSort (le:=fun x y:List UInt8=>decide (x≤y)) (fun a b c h k=>by simp only[decide_eq_true_eq] at *; exact List.le_trans h k) (fun a b=>by simp only[Bool.or_eq_true,decide_eq_true_eq]; exact List.le_total a b) ss
 have h2:(ss.mergeSort fun x y=>decide (x≤y)).Nodup:=(List.mergeSort_perm ss _).nodup_iff.2 h
 refine (List.pairwise_and_iff.2 ⟨h1,h2⟩ : List.Pairwise _ _).imp ?_
 rintro a b ⟨h1,h2⟩
 rcases Classical.em (a<b) with k|k
 ·exact k
 ·exact absurd (List.le_antisymm (by simpa using h1) (List.not_lt.1 k)) h2
theorem aCy {w w' : World} {b n:Nat} {D:DataW Unit} {R:Value→Option (DataW Unit × List MemPlace)} (h:w.ownsMap P kt R b n D) (hb:w'.heap[b]? = w.heap[b]?):w'.ownsMap P kt R b n D:=by
 obtain⟨es,clock,h1,h2⟩:=h
 exact⟨es,clock,hb.trans h1,h2⟩
theorem aMF {fK fS:FuncId} (hS:agz P tm kt et fK fS) {ops:Array Oper} {soft:Bool} {Q:Exit→Act→World→Prop} {z:List PV} {x0 x4:PV} {l:List Oper} {ms:List MOp} {b b2 off n:Nat} {o2:Option Obj} {ks:List ByteArray} {NK:List (List UInt8)}
 (hz0:0<z.length) (hx0:kfV x0=true) (hx4:kfV x4=true) (hB2:aMU b2 off o2 z) (hNK:∀ s∈ks,s.data.toList∈NK) (hNl:NK.length≤34359738368)
 (hl:nU P nt ops soft l=some (⟨some 44,.mv (.t 3),none,false⟩::⟨some 45,.call fK [.t 44],none,false⟩::⟨some 46,.call fS [.t 45],none,false⟩::ms))
 (h:wo P kt et w0 F0 nt b b2 o2 n ks ⟨[(4,x4),(3,.raw (.map (some b))),(2,.raw (.pointer (some ⟨b2,off,none⟩))),(0,x0)],[]⟩ a w)
 (hK:∀ (ns:List ByteArray) (N:Nat) (l' : List Oper) (a' : Act) (w' : World),nU P nt ops soft l'=some ms→ns.Pairwise (fun x y=>x.data.toList<y.data.toList)→(∀ s,s∈ns↔s∈ks) →
  Rel ⟨P,w0,F0,nt,[],0,hG0⟩ ⟨[(46,.vec 1 false (ns.map QD)),(4,x4),(2,.ptr (2,N) z.length 0 0),(0,x0)],[((2,N),some ⟨z.length,[z],false,true⟩)]⟩ a' w'→wpList P ops Q l' a' w'):wpList P ops Q l a w:=by
 obtain⟨hcK,hcS,hT,hlib⟩:=hS
 obtain⟨q1,l1,rfl,m1,hl1⟩:=Za hl
 obtain⟨q2,l2,rfl,m2,hl2⟩:=Za hl1
 obtain⟨q3,l3,rfl,m3,hl3⟩:=Za hl2
 obtain⟨w1,F1,hG,henv,hmap,hr⟩:=h
 obtain⟨es,hown1,hstr,hkeys,hlim⟩:=hmap
 have hlt:∀ {o:Oper} {i:MI} {d:Nat},adV P nt ops soft o=some ⟨some d,i,none,false⟩→d<nt∧o.dst=some d∧o.guard=none∧(toI P nt o=some i∨i=.bad):=fun {o i d} hm=>by
  obtain⟨h1,h2,h3⟩:=Pq hm
  refine⟨?_,h2.symm,?_,h1⟩
  ·unfold adV at hm
   rw[← h2] at hm
   simp only at hm
   split at hm
   ·cases hm
   ·rename_i hh; simpa using hh
  ·rcases h3 with ⟨h4,_⟩|⟨j,want,t,_,_,_,h5⟩
   ·exact h4
   ·cases h5
 refine x9 (E:=⟨P,w1,F1,nt,[],0,hG⟩) (ops:=ops) (soft:=soft) (Q:=Q) (l2:=q2::q3::l3) (K:=fun st'=>st'=⟨[(44,.raw (.map (some b))),(4,x4),(3,.raw (.map (some b))),(2,.raw (.pointer (some ⟨b2,off,none⟩))),(0,x0)],[]⟩) ?_ [q1] [⟨some 44,.mv (.t 3),none,false⟩] _ a w (by simp only[nU,m1]) hr (by
  show XR _ [⟨some 44,.mv (.t 3),none,false⟩] _ [] (fun _ st'=>st'=_)
  simp)
 rintro st1 a w rfl ⟨c,hg⟩
 have hwb:w.heap[b]? = w1.heap[b]? := hg.below.block b (by show b<w1.heap.size; rw[henv.size]; omega)
 have hown:=aCy hown1 hwb
 have hnd:=agN.nodup hT.kt hown hstr
 have hmem:∀ x,x∈strKeys (.map es)↔∃ s∈ks,s.data.toList=x:=fun x=>by
  rw[← hkeys x]
  show x∈es.map (fun p=>strOf p.1)↔_
  simp only[List.mem_map]
  constructor
  ·rintro⟨p,hp,rfl⟩
   obtain⟨y,hy⟩:=hstr p hp
   exact⟨p,hp,by rw[hy]; rfl⟩
  ·rintro⟨p,hp,e⟩
   exact⟨p,hp,by rw[e]; rfl⟩
 have hel:es.length≤34359738368:=by
  have h1:=azj hnd (m:=NK) (fun x hx=>by
   obtain⟨s,hs,rfl⟩:=(hmem x).1 hx
   exact hNK s hs)
  have h2:(strKeys (.map es)).length=es.length:=by show (es.map _).length=_; simp
  omega
 obtain⟨lt2,d2,g2,i2⟩:=hlt m2
 obtain⟨cl,ho,hcl,hcc,hargs⟩:=ah5 (E:=⟨P,w1,F1,nt,[],0,hG⟩) (i2.resolve_right (by simp))
 obtain⟨y,hy,ty⟩:=aDs hargs
 have ey:a.eval y=.map (some b):=by
  have:=hg.get (E:=⟨P,w1,F1,nt,[],0,hG⟩) ty
  simpa[St.get,lk,bq] using this
 have hrun2:(execOp a.eval q2).run P w=.ok (.enter fK #[.map (some b)]) w:=by
  rw[Yx ho hcl (a:=#[]) (b:=#[]) rfl hcK]
  congr 2
  apply Array.ext'
  simp[hy,ey]
 refine wpList_plain g2 fun K2 hK2=>Runs.wp (.inr ⟨fK,#[.map (some b)],hrun2,Calls.mono (hlib w b n es hown hel) ?_⟩)
 rintro e w2 ⟨v,rfl,hb1,hcall3⟩
 refine⟨v,rfl,hK2 _ _ ?_⟩
 rw[d2]
 obtain⟨lt3,d3,g3,i3⟩:=hlt m3
 obtain⟨cl3,ho3,hcl3,hcc3,hargs3⟩:=ah5 (E:=⟨P,w1,F1,nt,[],0,hG⟩) (i3.resolve_right (by simp))
 obtain⟨y3,hy3,ty3⟩:=aDs hargs3
 obtain⟨rfl,_⟩:=aQc ty3
 have hsz:a.tmps.size=nt:=hg.size
 have ey3:(a.put (some 45) v).eval (.tmp 45)=v:=by
  have:=awz (a:=a) (d:=45) (v:=v) (by rw[hsz]; exact lt2)
  simp[Act.eval,Array.getElem!_eq_getD,Array.getD_eq_getD_getElem?,this]
 have hrun3:(execOp (a.put (some 45) v).eval q3).run P w2=.ok (.enter fS #[v]) w2:=by
  rw[Yx ho3 hcl3 (a:=#[]) (b:=#[]) rfl hcS]
  congr 2
  apply Array.ext'
  simp[hy3,ey3]
 refine wpList_plain g3 fun K3 hK3=>Runs.wp (.inr ⟨fS,#[v],hrun3,Calls.mono hcall3 ?_⟩)
 rintro e w3 ⟨u,ss,rfl,hperm,hrow,hb2⟩
 refine⟨u,rfl,hK3 _ _ ?_⟩
 rw[d3]
 have hssn:ss.Nodup:=hperm.nodup_iff.2 hnd
 have hssm:∀ x,x∈ss↔∃ s∈ks,s.data.toList=x:=fun x=>by rw[hperm.mem_iff,hmem]
 obtain⟨zs,hzs⟩ : ∃ zs,zs=ss.mergeSort fun x y=>decide (x≤y):=⟨_,rfl⟩
 have hzm:∀ x,x∈zs↔x∈ss:=fun x=>by rw[hzs]; exact (List.mergeSort_perm ss _).mem_iff
 have hzl:zs.length=ss.length:=by rw[hzs]; exact (List.mergeSort_perm ss _).length_eq
 rw[← hzs] at hrow
 obtain⟨ns,hns⟩ : ∃ ns:List ByteArray,ns=zs.map fun x=>⟨x.toArray⟩:=⟨_,rfl⟩
 have hnl:ns.length=ss.length:=by rw[hns]; simp[hzl]
 have hssl:ss.length≤34359738368:=by
  have:(strKeys (.map es)).length=es.length:=by show (es.map _).length=_; simp
  rw[hperm.length_eq,this]; exact hel
 have hnsm:∀ s,s∈ns↔s∈ks:=fun s=>by
  rw[hns,List.mem_map]
  constructor
  ·rintro⟨x,hx,rfl⟩
   obtain⟨s',h1,h2⟩:=(hssm x).1 ((hzm x).1 hx)
   have:s'=⟨x.toArray⟩:=by rw[← h2]
   rw[← this]; exact h1
  ·intro hs
   exact⟨s.data.toList,(hzm _).2 ((hssm _).2 ⟨s,hs,rfl⟩),by simp⟩
 refine hK ns 0 l3 _ w3 hl3 ?_ hnsm ?_
 ·rw[hns,List.pairwise_map,hzs]
  exact (aB0 hssn).imp (by intro a b h; simpa using h)
 have hs1:w.heap.size≤w2.heap.size:=hb1.size
 have hs2:w2.heap.size≤w3.heap.size:=hb2.size
 have hbl:Below w.heap.size w w3:=hb1.trans (hb2.mono hs1)
 have hw1w:Bel w1.heap.size w1 w:=hg.below
 have hbw:b+1≤w.heap.size:=by have:=hw1w.size; rw[henv.size] at this; exact this
 have hb2lt:=henv.lt
 have hge:=henv.ge
 have hFz:∀ x,c.Fz x→x<w.heap.size∧(F1 x∨b+1≤x):=fun x hx=>by
  obtain⟨h1,h2⟩:=hg.fz x hx
  refine⟨h1,h2.imp id fun h=>?_⟩
  have:w1.heap.size≤x:=h
  rw[henv.size] at this; exact this
 have hnb2:¬ c.Fz b2:=fun hf=>by
  rcases (hFz b2 hf).2 with h|h
  ·exact henv.nb2 h
  ·omega
 have hmono:d9 c.d.Fz w w3:=⟨by omega,fun x hx=>hbl.block x (hFz x hx).1,fun x cs el fr hx=>⟨cs,fr,(hbl.block x (Array.getElem?_eq_some_iff.1 hx).1).trans hx,rfl⟩⟩
 have ho2:w3.heap[b2]? = o2:=by
  rw[hbl.block b2 (by omega),hw1w.block b2 (by rw[henv.size]; omega),henv.blk2]
 obtain⟨cs,el,fr,o1,o2',o3,o4⟩:=hB2
 obtain⟨c3,hc3⟩ : ∃ c3:Ctx,c3=⟨fun _=>some ⟨b2,off,none⟩,fun _=>z.length,fun k=>k=(2,0),fun x=>c.Fz x∨(w.heap.size≤x∧x<w3.heap.size)⟩:=⟨_,rfl⟩
 have hle:c.d.Le c3:=by rw[hc3]; exact⟨fun _ h=>h.elim,fun _ h=>h.elim,fun _ h=>h.elim,fun _ h=>.inl h⟩
 have old:∀ (x:PV) (v' : Value),kfV x=true→bq w c x v'→bq w3 c3 x v':=fun x v' hx hv=>bq.mono x v' hmono hle (akd x v' hx hv)
 have hsz2:((a.put (some 45) v).put (some 46) u).tmps.size=nt:=by simp[Act.put,hsz]
 have hu:bq w3 c3 (.vec 1 false (ns.map QD)) u:=by
  obtain⟨r1,r2⟩:=hrow
  rcases r2 with ⟨rfl,r2⟩|⟨g,cap,cur,rfl,r2,r3,r4,r5,r6,r7⟩
  ·have:ns=[]:=List.length_eq_zero_iff.1 (by omega)
   rw[this]
   exact⟨none,0,rfl,by simp,by omega,by simp[LIM],by simp,.inl rfl⟩
  ·refine⟨some ⟨g,0,none⟩,cap,by simp[hnl],by simp[hnl]; exact r4,by unfold maxLen at r5; omega,by simp only[List.length_map,hnl,LIM]; omega,by simp,.inr ⟨⟨g,0,none⟩,rfl,rfl,?_,?_⟩⟩
   ·rw[hc3]
    have hgl:g<w3.heap.size:=(Array.getElem?_eq_some_iff.1 r3).1
    exact .inr ⟨by show w.heap.size≤g; omega,hgl⟩
   ·refine aaf fun j hj=>⟨?_,?_⟩
    ·have hj1:j<zs.length:=by rw[hzl,← hnl]; exact hj
     have e1:(cur.toList.take (ss.length*1))[j]? = some (Value.string ns[j]):=by
      rw[r7,List.getElem?_map,List.getElem?_eq_getElem hj1]
      simp[hns]
     rw[List.getElem?_take_of_lt (by omega),Array.getElem?_toList] at e1
     simp only[World.cell?,r3,Nat.zero_add]
     simpa using e1
    ·exact hlim _ ((hnsm _).1 (List.getElem_mem hj))
 refine⟨c3,?_⟩
 refine
  {defers:=hg.defers
   size:=hsz2
   slot:=fun t v' hv=>?_
   heap:=fun k e he=>?_
   fresh:=fun k e ad he had=>?_
   apart:=fun k k' e e' ad ad' he he' _ _ hne=>?_
   fz:=fun x hx=>?_
   le:=fun x hx=>?_
   bnd:=⟨1,fun k hk=>by rw[hc3] at hk; rw[show k=(2,0) from hk]; simp⟩
   below:=?_
   ghost:=fun p hp=>by cases hp }
 ·simp only[lk]
  by_cases e1:t=46
  ·rw[if_pos e1]
   subst e1
   rw[awz (by simp[Act.put,hsz]; exact lt3)] at hv
   rw[← Option.some.inj hv]; exact hu
  rw[if_neg e1]
  rw[ayc e1] at hv
  by_cases e0:t=45
  ·subst e0; simp[bq]
  rw[ayc e0] at hv
  have hs:=hg.slot t v' hv
  simp only[lk] at hs
  by_cases e44:t=44
  ·subst e44; simp[bq]
  rw[if_neg e44] at hs
  by_cases e4:t=4
  ·rw[if_pos e4] at hs ⊢; exact old x4 v' hx4 hs
  rw[if_neg e4] at hs ⊢
  by_cases e3:t=3
  ·subst e3; simp[bq]
  rw[if_neg e3] at hs
  by_cases e2:t=2
  ·rw[if_pos e2] at hs ⊢
   have hs' : v'=.pointer (some ⟨b2,off,none⟩):=hs
   rw[hs',hc3]
   exact⟨rfl,rfl,⟨b2,off,none⟩,rfl,by simp⟩
  rw[if_neg e2] at hs ⊢
  by_cases e0' : t=0
  ·rw[if_pos e0'] at hs ⊢; exact old x0 v' hx0 hs
  ·rw[if_neg e0']; trivial
 ·simp only[hk] at he
  split at he
  ·rename_i hkk
   cases he
   rw[hc3]
   refine⟨hkk,rfl,?_⟩
   refine⟨rfl,⟨cs,el,fr,by rw[ho2,o1],by simpa using o2',o3⟩,⟨rfl,o4 w3 _ ho2,trivial⟩,?_⟩
   simp only[Bool.false_eq_true,iff_false]
   rintro (h|h)
   ·exact hnb2 h
   ·have:w.heap.size≤b2:=h.1
    omega
  ·cases he
 ·rw[hc3] at had
  obtain rfl:=Option.some.inj had
  exact⟨hge,by show b2<w3.heap.size; omega⟩
 ·simp only[hk] at he he'
  split at he
  ·split at he'
   ·rename_i h1 h2
    exact absurd (h1.trans h2.symm) hne
   ·cases he'
  ·cases he
 ·rw[hc3] at hx
  rcases hx with hx|hx
  ·obtain⟨h1,h2⟩:=hFz x hx
   refine⟨by omega,?_⟩
   rcases h2 with h2|h2
   ·exact henv.in0 x h2
   ·exact .inr (by show w0.heap.size≤x; omega)
  ·exact⟨hx.2,.inr (by show w0.heap.size≤x; have:=hx.1; omega)⟩
 ·rw[hc3]
  exact .inl (hg.le x (henv.of0 x hx))
 ·show Bel w0.heap.size w0 w3
  exact (henv.bel.trans (hw1w.mono (by rw[henv.size]; omega))).trans (Bel.of (hbl.mono (by omega)))
end
end Go.Proofs.YtngjnfbngheccaaGreatDoor.Pv
namespace Go.Tidy
abbrev S:=ByteArray
structure Span where
 low:S
 high:S
 deriving Inhabited
mutual
inductive Ty where
 | mk (all null fls tru:Bool) (nums:List Span) (any:Bool) (texts:List S) (arrays:List Arr) (objects:List Ob)
inductive Arr where
 | mk (item:Ty) (min max:Int)
inductive Ob where
 | mk (names:List S) (fields:List Ty) (must:List Bool) (rest:Ty)
end
namespace Ty
def all:Ty→Bool|.mk a _ _ _ _ _ _ _ _=>a
def null:Ty→Bool|.mk _ a _ _ _ _ _ _ _=>a
def fls:Ty→Bool|.mk _ _ a _ _ _ _ _ _=>a
def tru:Ty→Bool|.mk _ _ _ a _ _ _ _ _=>a
def nums:Ty→List Span|.mk _ _ _ _ a _ _ _ _=>a
def any:Ty→Bool|.mk _ _ _ _ _ a _ _ _=>a
def texts:Ty→List S|.mk _ _ _ _ _ _ a _ _=>a
def arrays:Ty→List Arr|.mk _ _ _ _ _ _ _ a _=>a
def objects:Ty→List Ob|.mk _ _ _ _ _ _ _ _ a=>a
end Ty
namespace Arr
def item:Arr→Ty|.mk a _ _=>a
def min:Arr→Int|.mk _ a _=>a
def max:Arr→Int|.mk _ _ a=>a
end Arr
namespace Ob
def names:Ob→List S|.mk a _ _ _=>a
def fields:Ob→List Ty|.mk _ a _ _=>a
def must:Ob→List Bool|.mk _ _ a _=>a
def rest:Ob→Ty|.mk _ _ _ a=>a
end Ob
def aV:Ty:=.mk false false false false [] false [] [] []
def dx:Ty:=.mk true false false false [] false [] [] []
instance:Inhabited Ty:=⟨aV⟩
instance:Inhabited Arr:=⟨.mk aV 0 0⟩
instance:Inhabited Ob:=⟨.mk [] [] [] aV⟩
section
variable (a b c d:Bool) (ns:List Span) (e:Bool) (ts:List S) (as:List Arr) (os:List Ob) (t:Ty) (lo hi:Int) (nm:List S) (fs:List Ty) (ms:List Bool)
@[simp] theorem Ty.all_mk:(Ty.mk a b c d ns e ts as os).all=a:=rfl
@[simp] theorem Ty.agU:(Ty.mk a b c d ns e ts as os).null=b:=rfl
@[simp] theorem Ty.akz:(Ty.mk a b c d ns e ts as os).fls=c:=rfl
@[simp] theorem Ty.ak5:(Ty.mk a b c d ns e ts as os).tru=d:=rfl
@[simp] theorem Ty.aa3:(Ty.mk a b c d ns e ts as os).nums=ns:=rfl
@[simp] theorem Ty.any_mk:(Ty.mk a b c d ns e ts as os).any=e:=rfl
@[simp] theorem Ty.rz:(Ty.mk a b c d ns e ts as os).texts=ts:=rfl
@[simp] theorem Ty.qP:(Ty.mk a b c d ns e ts as os).arrays=as:=rfl
@[simp] theorem Ty.pQ:(Ty.mk a b c d ns e ts as os).objects=os:=rfl
@[simp] theorem Arr.Ze:(Arr.mk t lo hi).item=t:=rfl
@[simp] theorem Arr.aFA:(Arr.mk t lo hi).min=lo:=rfl
@[simp] theorem Arr.auv:(Arr.mk t lo hi).max=hi:=rfl
@[simp] theorem Ob.ahZ:(Ob.mk nm fs ms t).names=nm:=rfl
@[simp] theorem Ob.uy:(Ob.mk nm fs ms t).fields=fs:=rfl
@[simp] theorem Ob.aaR:(Ob.mk nm fs ms t).must=ms:=rfl
@[simp] theorem Ob.agX:(Ob.mk nm fs ms t).rest=t:=rfl
end
theorem Ty.eta (t:Ty):.mk t.all t.null t.fls t.tru t.nums t.any t.texts t.arrays t.objects=t:=by cases t; rfl
theorem Arr.eta (t:Arr):.mk t.item t.min t.max=t:=by cases t; rfl
theorem Ob.eta (t:Ob):.mk t.names t.fields t.must t.rest=t:=by cases t; rfl
def sLt (a b:S):Bool:=Op.bytesLess a.data.toList b.data.toList
def sEq (a b:S):Bool:=a.data.toList == b.data.toList
def lq (a b:S):Ordering:=if sLt a b then .lt else if sEq a b then .eq else .gt
def eU (a:S):Bool:=a.data.toList.isEmpty
def neg (a:S):Bool:=a.data.toList.head? == some 45
def qW (a:S):List UInt8:=if neg a then a.data.toList.tail else a.data.toList
def Gq (c:UInt8):Bool:=48≤c&&c≤57
def yg (a:S):Bool:=(qW a).all Gq&&!(qW a).isEmpty&&((qW a).head? != some 48||a.data.toList == [48])
def aJR (x y:List UInt8):Ordering:=if Op.bytesLess x y then .lt else if x == y then .eq else .gt
def uj (x y:List UInt8):Ordering:=(compare x.length y.length).then (aJR x y)
def eu (a b:S):Ordering:=match neg a,neg b with
 | true,true=>uj (qW b) (qW a)
 | true,false=>.lt
 | false,true=>.gt
 | false,false=>uj (qW a) (qW b)
def l5 (a b:Bool):Ordering:=if a == b then .eq else if b then .lt else .gt
def nI (o:Ordering) (a b:S):Ordering:=if sEq a b then .eq else if eU a then o else if eU b then o.swap else eu a b
def dn {α:Type} (f:α→α→Ordering):List α→List α→Ordering
 | [],[]=>.eq
 | [],_::_=>.lt
 | _::_,[]=>.gt
 | a::l,b::m=>(f a b).then (dn f l m)
def oH (a b:Span):Ordering:=(nI .lt a.low b.low).then (nI .gt a.high b.high)
def vk (a b:Int):Ordering:=if a<0 then (if b<0 then .eq else .gt) else if b<0 then .lt else compare a b
mutual
def l8:Ty→Ty→Ordering
 | .mk a b c d ns e ts as os,.mk a' b' c' d' ns' e' ts' as' os' =>
   (l5 a a').then ((l5 b b').then ((l5 c c').then ((l5 d d').then ((dn oH ns ns').then ((l5 e e').then ((dn lq ts ts').then ((qz as as').then (qo os os'))))))))
def yX:Arr→Arr→Ordering
 | .mk t lo hi,.mk t' lo' hi'=>(compare lo lo').then ((vk hi hi').then (l8 t t'))
def oh:Ob→Ob→Ordering
 | .mk ns fs ms r,.mk ns' fs' ms' r'=>(dn lq ns ns').then ((dn l5 ms ms').then ((qL fs fs').then (l8 r r')))
def qz:List Arr→List Arr→Ordering
 | [],[]=>.eq
 | [],_::_=>.lt
 | _::_,[]=>.gt
 | a::l,b::m=>(yX a b).then (qz l m)
def qo:List Ob→List Ob→Ordering
 | [],[]=>.eq
 | [],_::_=>.lt
 | _::_,[]=>.gt
 | a::l,b::m=>(oh a b).then (qo l m)
def qL:List Ty→List Ty→Ordering
 | [],[]=>.eq
 | [],_::_=>.lt
 | _::_,[]=>.gt
 | a::l,b::m=>(l8 a b).then (qL l m)
end
theorem aEM:∀ l m:List Arr,qz l m=dn yX l m
 | [],[]=>by simp[qz,dn]
 | [],_::_=>by simp[qz,dn]
 | _::_,[]=>by simp[qz,dn]
 | a::l,b::m=>by simp[qz,dn,aEM l m]
theorem aEG:∀ l m:List Ob,qo l m=dn oh l m
 | [],[]=>by simp[qo,dn]
 | [],_::_=>by simp[qo,dn]
 | _::_,[]=>by simp[qo,dn]
 | a::l,b::m=>by simp[qo,dn,aEG l m]
theorem aEn:∀ l m:List Ty,qL l m=dn l8 l m
 | [],[]=>by simp[qL,dn]
 | [],_::_=>by simp[qL,dn]
 | _::_,[]=>by simp[qL,dn]
 | a::l,b::m=>by simp[qL,dn,aEn l m]
def trail (l:List UInt8) (n:Nat) (lo hi:UInt8):Bool:=decide (n≤l.length)&&(l.take n).all (fun c=>128≤c&&c≤191)&&(match l with|c::_=>decide (lo≤c)&&decide (c≤hi)|[]=>false)
def width:List UInt8→Nat
 | []=>0
 | c::l =>
   if c<128 then 1
   else if 194≤c&&c≤223&&trail l 1 128 191 then 2
   else if 224≤c&&c≤239&&trail l 2 (if c == 224 then 160 else 128) (if c == 237 then 159 else 191) then 3
   else if 240≤c&&c≤244&&trail l 3 (if c == 240 then 144 else 128) (if c == 244 then 143 else 191) then 4
   else 0
def KR:Nat→List UInt8→Bool
 | 0,l=>l.isEmpty
 | n+1,l=>l.isEmpty||(width l != 0&&KR n (l.drop (width l)))
def Xu (s:S):Bool:=KR s.data.toList.length s.data.toList
def iQ:List S→Bool
 | []=>true
 | [a]=>Xu a
 | a::b::l=>Xu a&&sLt a b&&iQ (b::l)
def bare (t:Ty):Bool:=!t.null&&!t.fls&&!t.tru&&!t.any&&t.nums.isEmpty&&t.texts.isEmpty&&t.arrays.isEmpty&&t.objects.isEmpty
def never (t:Ty):Bool:=!t.all&&bare t
def fu (s:S):Bool:=eU s||yg s
def jo (s:Span):Bool:=fu s.low&&fu s.high&&(eU s.low||eU s.high||(eu s.low s.high).isLE)
mutual
def aj:Ty→Bool
 | .mk a b c d ns e ts as os=>(!a||bare (.mk a b c d ns e ts as os))&&iQ ts&&(!e||ts.isEmpty)&&decide (ns.length≤1)&&ns.all jo&&decide (as.length≤1)&&Xw as&&YG os
def gu:Arr→Bool
 | .mk t lo hi=>decide (0≤lo)&&decide (-1≤hi)&&(decide (hi<0)||decide (lo≤hi))&&aj t&&(never t == decide (hi=0))
def bg:Ob→Bool
 | .mk ns fs ms r=>decide (ns.length=fs.length)&&decide (ns.length=ms.length)&&iQ ns&&aj r&&XK fs&&(fs.zip ms).all (fun p=>!p.2||!never p.1)
def Xw:List Arr→Bool
 | []=>true
 | a::l=>gu a&&Xw l
def YG:List Ob→Bool
 | []=>true
 | a::l=>bg a&&YG l
def XK:List Ty→Bool
 | []=>true
 | a::l=>aj a&&XK l
end
theorem WZ:∀ l:List Arr,Xw l=l.all gu
 | []=>by simp[Xw]
 | a::l=>by simp[Xw,WZ l]
theorem XG:∀ l:List Ob,YG l=l.all bg
 | []=>by simp[YG]
 | a::l=>by simp[YG,XG l]
theorem VK:∀ l:List Ty,XK l=l.all aj
 | []=>by simp[XK]
 | a::l=>by simp[XK,VK l]
mutual
def aK:Ty→Nat
 | .mk _ _ _ _ _ _ _ as os=>max (jv as) (jy os)
def jv:List Arr→Nat
 | []=>0
 | .mk t _ _::l=>max (aK t+1) (jv l)
def jy:List Ob→Nat
 | []=>0
 | .mk _ fs _ r::l=>max (max (aK r+1) (mh fs)) (jy l)
def mh:List Ty→Nat
 | []=>0
 | t::l=>max (aK t+1) (mh l)
end
mutual
def iw:Ty→Nat
 | .mk _ _ _ _ _ _ _ as os=>1+(lQ as+oQ os)
def lQ:List Arr→Nat
 | []=>0
 | .mk t _ _::l=>iw t+lQ l
def oQ:List Ob→Nat
 | []=>0
 | .mk _ fs _ r::l=>(iw r+mq fs)+oQ l
def mq:List Ty→Nat
 | []=>0
 | t::l=>iw t+mq l
end
def aie (a b:S):S:=if eU a||eU b then ByteArray.empty else if (eu a b).isLE then a else b
def acy (a b:S):S:=if eU a||eU b then ByteArray.empty else if (eu a b).isGE then a else b
def Av:List Span→List Span→List Span
 | [],b=>b
 | a,[]=>a
 | a::_,b::_=>[⟨aie a.low b.low,acy a.high b.high⟩]
def fQ:List S→List S→List S
 | [],b=>b
 | a,[]=>a
 | a::l,b::m=>if sLt a b then a::fQ l (b::m) else if sLt b a then b::fQ (a::l) m else a::fQ l m
termination_by a b=>a.length+b.length
mutual
def jf:Ty→Ty→Ty
 | .mk a b c d ns e ts as os,t =>
   if a||t.all then dx else
   .mk false (b||t.null) (c||t.fls) (d||t.tru) (Av ns t.nums) (e||t.any) (if e||t.any then [] else fQ ts t.texts) (jR as t.arrays) (os++t.objects)
def jR:List Arr→List Arr→List Arr
 | [],b=>b
 | a,[]=>a
 | a::_,b::_=>[ae9 a b]
def ae9:Arr→Arr→Arr
 | .mk t lo hi,b=>.mk (jf t b.item) (if b.min<lo then b.min else lo) (if hi<0∨b.max<0 then -1 else if b.max > hi then b.max else hi)
end
def qb (l:List Ty):Ty:=l.foldl jf aV
def bn (o:Ob) (n:S):Ty × Bool :=
 match (o.names.zip (o.fields.zip o.must)).find? (fun p=>sEq p.1 n) with
 | some p=>p.2
 | none=>(o.rest,false)
def um (l:List Ob):List S:=l.foldl (fun acc o=>fQ acc o.names) []
def yj (l:List Ob):Ob :=
 .mk (um l) ((um l).map fun n=>qb (l.map fun o=>(bn o n).1)) ((um l).map fun n=>l.all fun o=>(bn o n).2) (qb (l.map Ob.rest))
def jV (a b:Ty):Bool:=l8 a b == .eq
def jk (o:Ob):Ty:=.mk false false false false [] false [] [] [o]
def jr (o:Ob):Ob :=
 let l:=(o.names.zip (o.fields.zip o.must)).filter fun p=>p.2.2||!jV p.2.1 o.rest
 .mk (l.map (·.1)) (l.map (·.2.1)) (l.map (·.2.2)) o.rest
def aeN (s:Span):Bool:=!eU s.low&&!eU s.high&&(eu s.low s.high).isGT
def abp (a b:Span):Bool:=aeN a||((eU b.low||(!eU a.low&&(eu a.low b.low).isGE))&&(eU b.high||(!eU a.high&&(eu a.high b.high).isLE)))
def laidAll:Ty:=.mk false true true true [⟨ByteArray.empty,ByteArray.empty⟩] true [] [.mk dx 0 (-1)] [.mk [] [] [] dx]
def BQ (t:Ty):Ty:=if t.all then laidAll else t
def textsIn (a b:Ty):Bool:=b.any||(!a.any&&a.texts.all fun s=>b.texts.any fun u=>sEq u s)
mutual
def p9:Ty→Ty→Bool
 | .mk a b c d ns e ts as os,t =>
   never t||a ||
   (let x:=BQ t
    (!x.null||b)&&(!x.fls||c)&&(!x.tru||d)&&(x.nums.isEmpty||(match ns,x.nums with|n::_,m::_=>abp m n|_,_=>false)) &&
     textsIn x (.mk a b c d ns e ts as os)&&(x.arrays.isEmpty||(match as,x.arrays with|y::_,z::_=>aL7 y z|_,_=>false))&&x.objects.all (ap5 os))
def aL7:Arr→Arr→Bool
 | .mk t lo hi,x=>!(decide (lo > x.min)||(decide (0≤hi)&&(decide (x.max<0)||decide (x.max > hi))))&&(decide (x.max=0)||p9 t x.item)
def ap5:List Ob→Ob→Bool
 | [],_=>false
 | o::l,x=>tq o x||ap5 l x
def tq:Ob→Ob→Bool
 | .mk ns fs ms r,x =>
   (x.names++ns).all (fun n=>match (ns.zip ((aec fs).zip ms)).find? (fun p=>sEq p.1 n) with
    | some p=>(!p.2.2||(bn x n).2)&&p.2.1 (bn x n).1
    | none=>p9 r (bn x n).1)&&p9 r x.rest
def aec:List Ty→List (Ty→Bool)
 | []=>[]
 | t::l=>(fun x=>p9 t x)::aec l
end
def aPR (a b:Ty):Bool:=p9 b a
def oG (a b:Ob):Bool:=aPR (jk a) (jk b)
def aav (o:Ob):List Ob→List Ob
 | []=>[o]
 | x::l=>match l8 (jk o) (jk x) with
   | .lt=>o::x::l
   | .eq=>x::l
   | .gt=>x::aav o l
def iY (l:List Ob):List Ob:=l.foldl (fun acc o=>aav o acc) []
def dN:List Ob→List Ob→List Ob
 | kept,[]=>kept
 | kept,o::l=>if kept.any (oG o)||l.any (oG o) then dN kept l else dN (kept++[o]) l
def FQ (N:Ty→Ty) (o:Ob):Ob :=
 let o:=jr o
 if o.names.length≤12 then o else
 jr (.mk (o.names.take 12) (o.fields.take 12) (o.must.take 12) (N (qb (o.rest::o.fields.drop 12))))
def gq (N:Ty→Ty) (o:Ob):Ob:=FQ N (.mk o.names (o.fields.map N) o.must (N o.rest))
def nG (N:Ty→Ty) (l:List Ob):List Ob :=
 let row:=dN [] (iY l)
 if row.length≤4 then row else dN [] (iY (row.take 3++[gq N (yj (row.drop 3))]))
def ZH (t:Ty) (as:List Arr) (os:List Ob):Ty :=
 let out:Ty:=.mk false t.null t.fls t.tru t.nums (t.any||decide (16<t.texts.length)) (if 16<t.texts.length then [] else t.texts) as os
 if jV out laidAll then dx else out
def bG:Nat→Ty→Ty
 | 0,t=>if t.all||!t.arrays.isEmpty||!t.objects.isEmpty then dx else ZH t [] []
 | h+1,t=>if t.all then dx else ZH t (t.arrays.map fun a=>.mk (bG h a.item) a.min a.max) (nG (bG h) (t.objects.map (gq (bG h))))
def wO (t:Ty):Nat→Nat→Ty→Ty
 | 0,_,best=>best
 | n+1,h,best=>if iw (bG h t)≤200 then wO t n (h+1) (bG h t) else best
def l9 (t:Ty):Ty:=wO t 8 1 (bG 0 t)
end Go.Tidy

/- Part 16. -/
import Derived.Test.YtfilonnphgnplaaGreatDoorProg
import Derived.WalkKit
import Derived.Deep.LoopGhost
import Derived.Deep.RegionLaw
import Derived.Shelf.RegionOpenPlain
import Derived.Lib.Walk
import Derived.Sort.WalkB12
import Derived.Lib.SliceRun
import Derived.Deep.MidRow
import Derived.Test.YtfilonnphgnplaaGreatDoorC15
set_option linter.unusedSimpArgs false
set_option linter.unusedVariables false
namespace Go.Proofs.YtfilonnphgnplaaGreatDoor
open Go Go.RowKit Go.Shelf Go.Lib
def objOk (P:Program) (t:TypeId):Bool:=match P.info? t with
 | some i=>i.size == 12&&(match i.zero with|some z=>z.cells.size == 12&&z.cells.toList.all (·.oneCell')|none=>false)
 | none=>false
theorem objOk_spec {P:Program} {t:TypeId} (h:objOk P t=true):∃ i z,P.info? t=some i∧i.size=12∧i.zero=some z∧z.cells.size=12∧∀ u∈z.cells.toList,u.oneCell'=true:=by
 unfold objOk at h
 split at h
 ·rename_i i hi
  simp only[Bool.and_eq_true,beq_iff_eq] at h
  obtain⟨h1,h2⟩:=h
  split at h2
  ·rename_i z hz
   simp only[Bool.and_eq_true,beq_iff_eq,List.all_eq_true] at h2
   exact⟨i,z,hi,h1,hz,h2.1,h2.2⟩
  ·cases h2
 ·cases h
theorem run_clear_one {P:Program} (w:World) (t e ty:TypeId) (i:TypeInfo) (z:Value) (ht:P.underlying t=some (.slice e)) (hi:P.info? e=some i) (hz:i.zero=some z) (hs:z.cells.size=12) (h1:∀ u∈z.cells.toList,u.oneCell'=true) (b o c:Nat)
 (hc:∀ j,j<12→(w.cell? ⟨b,o+j,none⟩).isSome=true) (hf:∀ j,j<12→w.frozen? ⟨b,o+j,none⟩=false) :
 (Builtin.clear_ #[t] ty #[.slice (some ⟨b,o,none⟩) 1 c]).run P w=.ok (.tuple #[]) (w.setCells b o (Builtin.zeroCells z.cells 1).toList):=by
 have hzl:(Builtin.zeroCells z.cells 1).toList.length=12:=by simp[Builtin.zeroCells,hs]
 have hst:=run_storeCells_cells (P:=P) b o (Builtin.zeroCells z.cells 1).toList 0 w (by rw[hzl]; simpa using hc) (by rw[hzl]; simpa using hf) (by
  intro v hv
  simp only[Builtin.zeroCells,Array.toList_map,List.mem_map] at hv
  obtain⟨j,hj,rfl⟩:=hv
  have hj' : j<12:=by simpa[hs] using hj
  have:j % z.cells.size<z.cells.size:=Nat.mod_lt _ (by omega)
  rw[getElem!_pos z.cells _ this]
  exact h1 _ (by simp))
 simp only[Nat.add_zero] at hst
 simp[Builtin.clear_,run_underlying ht,zeroValue,typeInfo,hi,hz,hst]
theorem t28:Tryz.prog.underlying 28=some (.slice 57):=by kernel_rfl
theorem ok57:objOk Tryz.prog 57=true:=by kernel_rfl
theorem mixd:Tryz.prog.follows .mixedOrders=true:=by kernel_rfl
set_option maxHeartbeats 4000000 in
set_option maxRecDepth 1000000 in
theorem del_cells (blk off cap n i j:Nat) (news:List Value) (w:World) (hj:j=i+1) (hi:i<n) (hcap:n≤cap) (hm:cap≤9223372036854775807) (hnl:news.length=(n-j)*12) (hn1:∀ u∈news,u.oneCell'=true)
 (hsrc:∀ (k:Nat) (u:Value),news[k]? = some u→w.cell? ⟨blk,off+j*12+k,none⟩=some u) (hroom:∀ k,k<n*12→(w.cell? ⟨blk,off+k,none⟩).isSome=true∧w.frozen? ⟨blk,off+k,none⟩=false) :
 Calls Tryz.prog 278 #[.slice (some ⟨blk,off,none⟩) n cap,.int .i64 i,.int .i64 j] w fun e w'=>e=.returned (.slice (some ⟨blk,off,none⟩) (i+(n-j)) cap)∧∃ zs,w'=(w.drew.setCells blk (off+i*12) news).setCells blk (off+(i+(n-j))*12) zs:=by
 have mixed:=mixd
 have hic:i≤cap:=by omega
 have hjc:j≤cap:=by omega
 have hne:¬ i=j:=by omega
 have hij:i≤j:=by omega
 have hjn:j≤n:=by omega
 obtain⟨i0,z0,hi0,hz1,hz2,hz3,hz4⟩:=objOk_spec ok57
 have t28:=t28
 obtain⟨A,hA,hs⟩ : ∃ A:Addr,(if cap=j then some (⟨blk,off,none⟩ : Addr) else some ⟨blk,off+j*12,none⟩)=some A∧Hid (∀ t u,news[t]? = some u→w.drew.cell? (A.add t)=some u):=by
  by_cases h:cap=j
  ·refine⟨⟨blk,off,none⟩,by simp[h],fun t u hu=>?_⟩
   have h0:news.length=0:=by rw[hnl,show n-j=0 by omega]
   rw[List.length_eq_zero_iff.1 h0] at hu
   simp at hu
  ·refine⟨⟨blk,off+j*12,none⟩,by simp[h],fun t u hu=>?_⟩
   rw[Addr.add_lit]
   exact hsrc t u hu
 have s1:Hid (news.length=(n-j)*12):=hnl
 have s2:Hid (∀ u∈news,u.oneCell'=true):=hn1
 have s3:Hid (∀ t,t<news.length→(w.drew.cell? ⟨blk,off+i*12+t,none⟩).isSome=true∧w.drew.frozen? ⟨blk,off+i*12+t,none⟩=false):=fun t ht=>by
  rw[hnl] at ht
  have:=hroom (i*12+t) (by omega)
  rw[← Nat.add_assoc] at this
  exact this
 obtain⟨W1,hW1⟩ : ∃ W1,W1=w.drew.setCells blk (off+i*12) news:=⟨_,rfl⟩
 have hcells:∀ k,k<n*12→(W1.cell? ⟨blk,off+k,none⟩).isSome=true∧W1.frozen? ⟨blk,off+k,none⟩=false:=fun k hk=>by
  have h0:=hroom k hk
  rw[hW1]
  refine⟨World.isSome_setCells _ _ _ _ _ h0.1,?_⟩
  rw[World.frozen?_setCells]; exact h0.2
 have hone:n-(i+(n-j))=1:=by omega
 have hcl:∀ ty c,(Builtin.clear_ #[28] ty #[.slice (some ⟨blk,off+(i+(n-j))*12,none⟩) (n-(i+(n-j))) c]).run Tryz.prog W1=.ok (.tuple #[]) (W1.setCells blk (off+(i+(n-j))*12) (Builtin.zeroCells z0.cells 1).toList):=by
  rw[hone]
  exact fun ty c=>run_clear_one W1 28 57 ty i0 z0 t28 hi0 hz2 hz3 hz4 _ _ _
   (fun k hk=>by have:=(hcells ((i+(n-j))*12+k) (by omega)).1; rwa [← Nat.add_assoc] at this)
   (fun k hk=>by have:=(hcells ((i+(n-j))*12+k) (by omega)).2; rwa [← Nat.add_assoc] at this)
 generalize (Builtin.zeroCells z0.cells 1).toList=zs at hcl
 have hW:Hid (W1=w.drew.setCells blk (off+i*12) news):=hW1
 have hle:i+(n-j)≤n:=by omega
 have hlt:i+(n-j)<cap:=by omega
 have hj' : Hid (j=i+1):=hj
 clear hW1 hnl hn1 hsrc hroom hcells hj hone hz2 hz3 hz4
 go_enter Tryz.func278,Tryz.ntmps278
 go_wp2_with fail
 go_region_law_o (refine step_append_room rfl (.tmp 22) (.tmp 25) 28 rfl 57 i0 12 t28 hi0 hz1 blk off i cap (by simp[Act.eval,Act.put]) A (n-j) (cap-j) news (by simp[Act.eval,Act.put]) s1.out hs.out s2.out (by omega) s3.out ?_; rw[← hW.out])
 go_wp2
 go_ret
 exact⟨rfl,zs,by rw[hW.out]⟩
end Go.Proofs.YtfilonnphgnplaaGreatDoor
namespace Go.Proofs.YtfilonnphgnplaaGreatDoor.Pv
open Go Go.Tidy Go.Maps Go.RowKit
theorem sorts_in (m:Nat):AnyZ.SortsIn Tryz.prog Tryz.sortedA_ren Fence.wide m :=
 ⟨fun blk off cap ss W hH hblk hsz=>callsIn_wide.2 (AnyM.slices_Sort_string Tryz.sortA blk off cap ss W hH hblk hsz),
  fun p cap W=>callsIn_wide.2 (AnyM.slices_Sort_string_none Tryz.sortA p cap W)⟩
theorem keys_ok:SortedKeys prog 164 9 3 M.F_maps_Keys_int M.F_slices_Sorted_string:=by
 refine⟨by kernel_rfl,by kernel_rfl,⟨by kernel_rfl,by kernel_rfl,by kernel_rfl⟩,fun w b n es hown hlen=>?_⟩
 have hsz:Maps.size (.map es:DataW Unit)≤34359738368:=hlen
 have hbl:=hown.lt
 have cK:CallsIn Fence.wide 5 Tryz.prog 158 #[.map (some b)] w fun e w'=>e=.returned (.func (.func 225) #[] #[.pointer (some ⟨w.heap.size,0,none⟩)])∧w'=w.alloc (.cells #[.map (some b)] 164):=AnyZ.keys_in Tryz.keysA Fence.wide 5 trivial rfl (some b) w
 refine Calls.mono ((callsIn_wide (n:=5)).1 cK) ?_
 rintro e w' ⟨rfl,rfl⟩
 refine⟨_,rfl,(Below.refl _ w).alloc (Nat.le_refl _) _,?_⟩
 have hseq:SeqGives Fence.wide 2 Tryz.prog 225 #[.pointer (some ⟨w.heap.size,0,none⟩)] Go.Proofs.encStr (fun ss=>ss.Perm (strKeys (.map es:DataW Unit))) (Maps.size (.map es:DataW Unit)) (w.alloc (.cells #[.map (some b)] 164)) :=
  AnyZ.keys_gives (ρ:=Tryz.keysA_ren) { Tryz.keysA with } Fence.wide _ trivial rfl (by omega) w.heap.size b n (.map es) _ (by simp) (by simp) (by
   obtain⟨es',clock,hb,Ft,hs,hD⟩:=hown
   exact⟨es',clock,(Below.heap_alloc _ _ b hbl).trans hb,Ft,hs,hD⟩)
 have cS:=AnyZ.sorted_in Tryz.sortedA Fence.wide 5 trivial trivial trivial trivial rfl (by omega) (sorts_in _) (enters_of Tryz.func155 (by kernel_rfl) rfl) 225 #[.pointer (some ⟨w.heap.size,0,none⟩)] trivial (enters_of Tryz.func225 (by kernel_rfl) rfl) _ _ (by unfold maxLen; omega) (by omega) _ hseq
 change CallsIn _ _ Tryz.prog 157 _ _ _ at cS
 refine Calls.mono ((callsIn_wide (n:=5)).1 cS) ?_
 rintro e w' ⟨v,ss,rfl,hS,hrow,hnil,hb⟩
 exact⟨v,ss,rfl,hS,hrow,hb⟩
theorem libOk:LibOk:=⟨⟨9,3,keys_ok⟩,⟨by kernel_rfl,fun blk off cap n i j news w a b c d e f g h=>del_cells blk off cap n i j news w a b c d e f g h⟩⟩
end Go.Proofs.YtfilonnphgnplaaGreatDoor.Pv
namespace Go.Tidy
open Go
inductive Val where
 | mk (kind:Int) (num text:S) (items:List Val) (keys:List S)
namespace Val
def kind:Val→Int|.mk a _ _ _ _=>a
def num:Val→S|.mk _ a _ _ _=>a
def text:Val→S|.mk _ _ a _ _=>a
def items:Val→List Val|.mk _ _ _ a _=>a
def keys:Val→List S|.mk _ _ _ _ a=>a
end Val
def getV (v:Val) (s:S):Option Val :=
 if v.kind=6 then (match v.keys.findIdx? (sEq · s) with|some i=>v.items[i]?|none=>none) else none
def inSpanB (n:S) (s:Span):Bool:=(sEmp s.low||!(numCmp n s.low).isLT)&&(sEmp s.high||(numCmp n s.high).isLE)
mutual
def inT:Ty→Val→Bool
 | .mk a b c d ns e ts az os,v =>
   a||(if v.kind=0 then b else if v.kind=1 then c else if v.kind=2 then d
     else if v.kind=3 then (match ns with|n::_=>inSpanB v.num n|[]=>false)
     else if v.kind=4 then e||ts.any (sEq · v.text)
     else if v.kind=5 then (match az with|x::_=>inA x v|[]=>false)
     else inOs os v)
def inA:Arr→Val→Bool
 | .mk t lo hi,v=>!(decide ((v.items.length:Int)<lo)||(decide (0≤hi)&&decide (hi<(v.items.length:Int))))&&v.items.all (inT t)
def inOs:List Ob→Val→Bool
 | [],_=>false
 | o::l,v=>inO o v||inOs l v
def inO:Ob→Val→Bool
 | .mk ns fs ms r,v =>
   ((ns.zip ((inTs fs).zip ms)).all fun p=>match getV v p.1 with|some x=>p.2.1 x|none=>!p.2.2) &&
     (v.keys.zip v.items).all fun p=>ns.any (sEq · p.1)||inT r p.2
def inTs:List Ty→List (Val→Bool)
 | []=>[]
 | t::l=>(fun v=>inT t v)::inTs l
end
theorem inOs_any (v:Val):∀ l:List Ob,inOs l v=l.any (inO · v)
 | []=>rfl
 | o::l=>by simp[inOs,inOs_any v l]
theorem inTs_map:∀ l:List Ty,inTs l=l.map inT
 | []=>rfl
 | t::l=>by simp[inTs,inTs_map l]
end Go.Tidy
set_option maxRecDepth 100000
namespace Go.Proofs.YtfilonnphgnplaaGreatDoor.Pv
open Go Go.Tidy
theorem c_ref09_InSpan (n:S) (s:Span) (hn:numB n=true) (h1:boundB s.low=true) (h2:boundB s.high=true):Ret prog M.F_ref09_InSpan [.str n,.agg (encSpan s)] (.bool (inSpanB n s)):=by
 refine Ret.go hmix h_ref09_InSpan (by simp) fun hb w0 F0 hG=>?_
 unfold inSpanB
 simp
 intro v
 cases e1:sEmp s.low
 ·simp[e1]
  refine XCall.ret (c_ref03_Numbers _ _ hn (boundB_num h1 e1)) ?_
  cases e2:numCmp n s.low
  ·simp[oInt,e2]
  ·simp[oInt,e2]
   cases e3:sEmp s.high
   ·simp[e1,e3]
    refine XCall.ret (c_ref03_Numbers _ _ hn (boundB_num h2 e3)) ?_
    cases e4:numCmp n s.high<;>simp[oInt,e4]
   ·simp[e1,e3]
  ·simp[oInt,e2]
   cases e3:sEmp s.high
   ·simp[e1,e3]
    refine XCall.ret (c_ref03_Numbers _ _ hn (boundB_num h2 e3)) ?_
    cases e4:numCmp n s.high<;>simp[oInt,e4]
   ·simp[e1,e3]
 ·simp[e1]
  cases e3:sEmp s.high
  ·simp[e1,e3]
   refine XCall.ret (c_ref03_Numbers _ _ hn (boundB_num h2 e3)) ?_
   cases e4:numCmp n s.high<;>simp[oInt,e4]
  ·simp[e1,e3]
end Go.Proofs.YtfilonnphgnplaaGreatDoor.Pv
set_option maxRecDepth 100000
namespace Go.Proofs.YtfilonnphgnplaaGreatDoor.Pv
open Go Go.Tidy
mutual
def encVal:Val→List PV
 | .mk k n t is ks=>[.int .i64 k,.str n,.str t,.vec 5 false (encVals is),.vec 1 false (ks.map encStr)]
def encVals:List Val→List (List PV)
 | []=>[]
 | v::l=>encVal v::encVals l
end
theorem encVals_map (l:List Val):encVals l=l.map encVal:=by induction l with|nil=>rfl|cons a l ih=>simp[encVals,ih]
abbrev cV (v:Val):List PV:=[.int .i64 v.kind,.str v.num,.str v.text,.vec 5 false (v.items.map encVal),.vec 1 false (v.keys.map encStr)]
theorem encVal_eq (v:Val):encVal v=cV v:=by
 obtain⟨k,n,t,is,ks⟩:=v
 simp[encVal,encVals_map,cV,Val.kind,Val.num,Val.text,Val.items,Val.keys]
attribute [simp] encVal_eq
def vZero:Val:=.mk 0 ByteArray.empty ByteArray.empty [] []
theorem vZero_cells:(.agg (cV vZero):PV)=.agg [.int .i64 0,.str ⟨#[]⟩,.str ⟨#[]⟩,.vec 5 false [],.vec 1 false []]:=rfl
theorem getV_at {v:Val} {s:S} {k:Nat} (h6:v.kind=6) (hk:k<v.keys.length) (hj:AllTo (fun u=>!sEq u s) v.keys k) (he:sEq v.keys[k] s=true):getV v s=v.items[k]? := by
 unfold getV
 rw[if_pos h6]
 have:v.keys.findIdx? (sEq · s)=some k:=by
  rw[List.findIdx?_eq_some_iff_getElem]
  refine⟨hk,he,fun j hjk=>?_⟩
  have:=hj j (by omega) hjk
  simpa using this
 rw[this]
theorem c_ref03_Get (v:Val) (s:S):Ret prog M.F_ref03_Get [.agg (cV v),.str s] (.tup [.agg (cV ((getV v s).getD vZero)),.bool (getV v s).isSome]):=by
 refine Ret.go hmix h_ref03_Get (by simp) fun hb w0 F0 hG=>?_
 simp only[bndL,bndV,List.length_map,LIM,and_true] at hb
 by_cases h6:v.kind=6
 ·obtain⟨J,hJ⟩ : ∃ J:Nat→Unit→Prop,J=fun k _=>AllTo (fun u=>!sEq u s) v.keys k:=⟨_,rfl⟩
  generalize hR:getV v s=R
  simp[h6]
  intro v1 v2
  refine XLoop.cnt hmix v.keys.length (fun k _=>⟨[(6,.int .i64 k),(5,.bool false),(4,.ptr (4,v2) 5 0 0),(2,.ptr (2,v1) 5 0 0),(1,.str s)],[((4,v2),some ⟨5,[M.z3],false,true⟩),((2,v1),some ⟨5,[cV v],false,true⟩)]⟩) J () (by rw[hJ]; exact .zero) (by simp[h6]) fun k _ hk hj=>?_
  have hw:=wrap64 (n:=(k:Int)+1) (by omega) (by omega)
  have hj' : AllTo (fun u=>!sEq u s) v.keys k:=by rw[hJ] at hj; exact hj
  by_cases g1:k<v.keys.length
  ·cases e1:sEq v.keys[k] s
   ·simp[g1,e1,hw]
    exact⟨(),by rw[hJ]; exact hj'.step g1 (by simp[e1])⟩
   ·have hg:=getV_at h6 g1 hj' e1
    rw[hR] at hg
    by_cases g2:k<v.items.length
    ·rw[List.getElem?_eq_getElem g2] at hg
     simp[g1,e1,g2,hg]
    ·rw[List.getElem?_eq_none (by omega)] at hg
     rw[hg,Option.getD_none,vZero_cells]
     simp[g1,e1,g2]
  ·have hg:R=none:=by
      rw[← hR]
      unfold getV
      rw[if_pos h6]
      have:v.keys.findIdx? (sEq · s)=none:=by
       rw[List.findIdx?_eq_none_iff]
       intro x hx
       have:=hj'.all g1
       rw[List.all_eq_true] at this
       simpa using this x hx
      rw[this]
   rw[hg,Option.getD_none,vZero_cells]
   simp[g1]
 ·have:getV v s=none:=by unfold getV; rw[if_neg h6]
  rw[this,Option.getD_none,vZero_cells]
  simp[h6]
end Go.Proofs.YtfilonnphgnplaaGreatDoor.Pv
set_option maxRecDepth 100000
namespace Go.Proofs.YtfilonnphgnplaaGreatDoor.Pv
open Go Go.Tidy
def inLB (a:Arr) (l:List Val):Bool:=!(decide ((l.length:Int)<a.min)||(decide (0≤a.max)&&decide (a.max<(l.length:Int))))&&l.all (inT a.item)
set_option maxHeartbeats 4000000 in
theorem inArr_step (l:List Val) (a:Arr) (hI:∀ v∈l,Ret prog M.F_ref09_In [.agg (cV v),.agg (cT a.item)] (.bool (inT a.item v))):Ret prog M.F_ref09_inArr [.vec 5 false (l.map encVal),.agg (cA a)] (.bool (inLB a l)):=by
 refine Ret.go hmix h_ref09_inArr (by simp) fun hb w0 F0 hG=>?_
 simp only[bndL,bndV,List.length_map,LIM,and_true] at hb
 generalize hB:inLB a l=B
 have tail:∀ v3:Nat,¬ (l.length:Int)<a.min→¬ (0≤a.max∧a.max<(l.length:Int))→B=l.all (inT a.item):=fun _ h1 h2=>by
  rw[← hB]
  unfold inLB
  by_cases g:0≤a.max
  ·have:¬ a.max<(l.length:Int):=fun h=>h2 ⟨g,h⟩
   simp[h1,g,this]
  ·simp[h1,g]
 obtain⟨J,hJ⟩ : ∃ J:Nat→Unit→Prop,J=fun k _=>AllTo (inT a.item) l k:=⟨_,rfl⟩
 by_cases g1:(l.length:Int)<a.min
 ·have:B=false:=by rw[← hB]; unfold inLB; simp[g1]
  simp[g1,this]
 by_cases g2:0≤a.max
 ·by_cases g3:a.max<(l.length:Int)
  ·have:B=false:=by rw[← hB]; unfold inLB; simp[g1,g2,g3]
   simp[g1,g2,g3,this]
  ·have hBt:=tail 0 g1 (fun h=>g3 h.2)
   simp[g1,g2,g3]
   intro v3
   refine XLoop.cnt hmix l.length (fun k _=>⟨[(5,.int .i64 k),(4,.bool false),(3,.ptr (3,v3) 11 0 0),(0,.vec 5 false (l.map encVal))],[((3,v3),some ⟨11,[cA a],false,true⟩)]⟩) J () (by rw[hJ]; exact .zero) (by simp) fun k _ hk hj=>?_
   have hw:=wrap64 (n:=(k:Int)+1) (by omega) (by omega)
   have hj' : AllTo (inT a.item) l k:=by rw[hJ] at hj; exact hj
   by_cases q1:k<l.length
   ·have c1:=hI _ (List.getElem_mem q1)
    cases e1:inT a.item l[k]
    ·have hBf:B=false:=by
        rw[hBt,List.all_eq_false]
        exact⟨l[k],List.getElem_mem q1,by simp[e1]⟩
     rw[e1] at c1
     simp[q1]
     intro v4
     refine XDCall.ret (by simpa using c1) ?_
     simp[hBf]
    ·rw[e1] at c1
     have hJn:J (k+1) ():=by rw[hJ]; exact hj'.step q1 e1
     simp[q1]
     intro v4
     refine XDCall.ret (by simpa using c1) ?_
     simp[q1,hw]
     exact⟨(),hJn⟩
   ·have hBt' : B=true:=by rw[hBt]; exact hj'.all q1
    simp[q1,hBt']
 ·have hBt:=tail 0 g1 (fun h=>g2 h.1)
  simp[g1,g2]
  intro v3
  refine XLoop.cnt hmix l.length (fun k _=>⟨[(5,.int .i64 k),(4,.bool false),(3,.ptr (3,v3) 11 0 0),(0,.vec 5 false (l.map encVal))],[((3,v3),some ⟨11,[cA a],false,true⟩)]⟩) J () (by rw[hJ]; exact .zero) (by simp) fun k _ hk hj=>?_
  have hw:=wrap64 (n:=(k:Int)+1) (by omega) (by omega)
  have hj' : AllTo (inT a.item) l k:=by rw[hJ] at hj; exact hj
  by_cases q1:k<l.length
  ·have c1:=hI _ (List.getElem_mem q1)
   cases e1:inT a.item l[k]
   ·have hBf:B=false:=by
       rw[hBt,List.all_eq_false]
       exact⟨l[k],List.getElem_mem q1,by simp[e1]⟩
    rw[e1] at c1
    simp[q1]
    intro v4
    refine XDCall.ret (by simpa using c1) ?_
    simp[hBf]
   ·rw[e1] at c1
    have hJn:J (k+1) ():=by rw[hJ]; exact hj'.step q1 e1
    simp[q1]
    intro v4
    refine XDCall.ret (by simpa using c1) ?_
    simp[q1,hw]
    exact⟨(),hJn⟩
  ·have hBt' : B=true:=by rw[hBt]; exact hj'.all q1
   simp[q1,hBt']
end Go.Proofs.YtfilonnphgnplaaGreatDoor.Pv
set_option maxRecDepth 100000
namespace Go.Proofs.YtfilonnphgnplaaGreatDoor.Pv
open Go Go.Tidy
def inF (v:Val) (o:Ob) (k:Nat):Bool:=match o.names[k]?,o.fields[k]?,o.must[k]? with
 | some n,some f,some m=>(match getV v n with|some x=>inT f x|none=>!m)
 | _,_,_=>false
theorem getV_mem {v:Val} {s:S} {x:Val} (h:getV v s=some x):x∈v.items:=by
 unfold getV at h
 split at h
 ·split at h
  ·exact List.mem_of_getElem? h
  ·cases h
 ·cases h
set_option maxHeartbeats 4000000 in
theorem inObj_step (v:Val) (o:Ob) (hf:o.fields.length=o.names.length) (hm:o.must.length=o.names.length) (hk:v.keys.length=v.items.length)
 (hF:∀ f∈o.fields,∀ x∈v.items,Ret prog M.F_ref09_In [.agg (cV x),.agg (cT f)] (.bool (inT f x)))
 (hR:∀ x∈v.items,Ret prog M.F_ref09_In [.agg (cV x),.agg (cT o.rest)] (.bool (inT o.rest x))) :
 Ret prog M.F_ref09_InObj [.agg (cV v),.agg (cO o)] (.bool (((List.range o.names.length).all (inF v o))&&(List.range v.keys.length).all fun k=>(match v.keys[k]?,v.items[k]? with|some s,some x=>o.names.any (sEq · s)||inT o.rest x|_,_=>false))):=by
 refine Ret.go hmix h_ref09_InObj (by simp) fun hb w0 F0 hG=>?_
 simp only[bndL,bndV,List.length_map,LIM,and_true] at hb
 generalize hB:(((List.range o.names.length).all (inF v o))&&(List.range v.keys.length).all fun k=>(match v.keys[k]?,v.items[k]? with|some s,some x=>o.names.any (sEq · s)||inT o.rest x|_,_=>false))=B
 simp
 intro v2 v3
 obtain⟨J,hJ⟩ : ∃ J:Nat→Unit→Prop,J=fun k _=>∀ j,j<k→inF v o j=true:=⟨_,rfl⟩
 refine XLoop.cnt hmix o.names.length (fun k _=>⟨[(5,.int .i64 k),(4,.bool false),(3,.ptr (3,v3) 12 0 0),(2,.ptr (2,v2) 5 0 0)],[((3,v3),some ⟨12,[cO o],false,true⟩),((2,v2),some ⟨5,[cV v],false,true⟩)]⟩) J () (by rw[hJ]; exact fun j hj=>absurd hj (by omega)) (by simp) fun k _ hkn hj=>?_
 have hw:=wrap64 (n:=(k:Int)+1) (by omega) (by omega)
 have hj' : ∀ j,j<k→inF v o j=true:=by rw[hJ] at hj; exact hj
 by_cases q1:k<o.names.length
 ·have c1:=c_ref03_Get v o.names[k]
  have eF:inF v o k=(match getV v o.names[k] with|some x=>inT (o.fields[k]'(by omega)) x|none=>!(o.must[k]'(by omega))):=by
   unfold inF
   rw[List.getElem?_eq_getElem q1,List.getElem?_eq_getElem (show k<o.fields.length by omega),List.getElem?_eq_getElem (show k<o.must.length by omega)]
  have hBf:inF v o k=false→B=false:=fun h=>by
   rw[← hB,Bool.and_eq_false_iff]
   exact .inl (List.all_eq_false.2 ⟨k,List.mem_range.2 q1,by simp[h]⟩)
  have hJn:inF v o k=true→J (k+1) ():=fun h=>by
   rw[hJ]
   intro j hjk
   by_cases e:j=k
   ·rw[e]; exact h
   ·exact hj' j (by omega)
  have q2:k<o.fields.length:=by omega
  have q3:k<o.must.length:=by omega
  simp[q1]
  intro v4
  refine XDCall.ret (by simpa using c1) ?_
  cases hg:getV v o.names[k] with
  | none =>
    rw[hg] at eF
    rw[Option.getD_none,vZero_cells,Option.isSome_none]
    cases hmk:o.must[k]'q3
    ·have hJ2:=hJn (by rw[eF]; simp[hmk])
     simp[q1,q3,hmk]
     exact⟨⟨(),hJ2⟩,hw⟩
    ·have hB2:=hBf (by rw[eF]; simp[hmk])
     simp[q1,q3,hmk,hB2]
  | some x =>
    rw[hg] at eF
    rw[Option.getD_some,Option.isSome_some]
    have c2:=hF _ (List.getElem_mem q2) x (getV_mem hg)
    cases hi:inT (o.fields[k]'q2) x
    ·have hB2:=hBf (by rw[eF]; exact hi)
     rw[hi] at c2
     simp[q1,q2]
     intro v5
     refine XDCall.ret (by simpa using c2) ?_
     simp[hB2]
    ·have hJ2:=hJn (by rw[eF]; exact hi)
     rw[hi] at c2
     simp[q1,q2]
     intro v5
     refine XDCall.ret (by simpa using c2) ?_
     simp[q1,hw]
     exact⟨(),hJ2⟩
 ·have h1:(List.range o.names.length).all (inF v o)=true:=by
     rw[List.all_eq_true]
     intro j hjm
     exact hj' j (by have:=List.mem_range.1 hjm; omega)
  rw[h1,Bool.true_and] at hB
  simp[q1]
  obtain⟨J2,hJ2⟩ : ∃ J2:Nat→Unit→Prop,J2=fun i _=>∀ j,j<i→(match v.keys[j]?,v.items[j]? with|some s,some x=>o.names.any (sEq · s)||inT o.rest x|_,_=>false)=true:=⟨_,rfl⟩
  refine XLoop.cnt hmix v.keys.length (fun i _=>⟨[(8,.int .i64 i),(4,.bool false),(3,.ptr (3,v3) 12 0 0),(2,.ptr (2,v2) 5 0 0)],[((3,v3),some ⟨12,[cO o],false,true⟩),((2,v2),some ⟨5,[cV v],false,true⟩)]⟩) J2 () (by rw[hJ2]; exact fun j hj=>absurd hj (by omega)) (by simp) fun i _ hin hj2=>?_
  have hw2:=wrap64 (n:=(i:Int)+1) (by omega) (by omega)
  by_cases p1:i<v.keys.length
  ·have p2:i<v.items.length:=by omega
   have cH:=c_ref09_Has o.names v.keys[i]
   have eG:(match v.keys[i]?,v.items[i]? with|some s,some x=>o.names.any (sEq · s)||inT o.rest x|_,_=>false)=(o.names.any (sEq · v.keys[i])||inT o.rest v.items[i]):=by
    rw[List.getElem?_eq_getElem p1,List.getElem?_eq_getElem p2]
   have hj2' : ∀ j,j<i→(match v.keys[j]?,v.items[j]? with|some s,some x=>o.names.any (sEq · s)||inT o.rest x|_,_=>false)=true:=by rw[hJ2] at hj2; exact hj2
   have hJn2:(o.names.any (sEq · v.keys[i])||inT o.rest v.items[i])=true→J2 (i+1) ():=fun h=>by
    rw[hJ2]
    intro j hjk
    by_cases e:j=i
    ·subst e; rw[eG]; exact h
    ·exact hj2' j (by omega)
   have hBf:(o.names.any (sEq · v.keys[i])||inT o.rest v.items[i])=false→B=false:=fun h=>by
    rw[← hB]
    exact List.all_eq_false.2 ⟨i,List.mem_range.2 p1,by rw[eG,h]; simp⟩
   simp[p1]
   intro v4
   refine XDCall.ret (by simpa using cH) ?_
   cases hh:o.names.any (sEq · v.keys[i])
   ·have c2:=hR _ (List.getElem_mem p2)
    cases hi:inT o.rest v.items[i]
    ·have hB2:=hBf (by rw[hh,hi]; rfl)
     rw[hi] at c2
     simp[p1,p2]
     refine XDCall.ret (by simpa using c2) ?_
     simp[hB2]
    ·have hJ3:=hJn2 (by rw[hh,hi]; rfl)
     rw[hi] at c2
     simp[p1,p2]
     refine XDCall.ret (by simpa using c2) ?_
     simp[p1,hw2]
     exact⟨(),hJ3⟩
   ·have hJ3:=hJn2 (by rw[hh]; rfl)
    simp[p1,hw2]
    exact⟨(),hJ3⟩
  ·have hBt:B=true:=by
      rw[← hB,List.all_eq_true]
      intro j hjm
      rw[hJ2] at hj2
      exact hj2 j (by have:=List.mem_range.1 hjm; omega)
   simp[p1,hBt]
end Go.Proofs.YtfilonnphgnplaaGreatDoor.Pv
namespace Go.Tidy
open Go
mutual
def formedV:Val→Bool
 | .mk k n t is ks=>decide (0≤k)&&decide (k≤6)&&(if k=3 then numB n else sEmp n)&&(if k=4 then utfB t else sEmp t)&&(decide (5≤k)||is.isEmpty)&&(decide (6≤k)||ks.isEmpty) &&
   (!decide (k=6)||(decide (ks.length=is.length)&&riseB ks))&&formedVs is
def formedVs:List Val→Bool
 | []=>true
 | v::l=>formedV v&&formedVs l
end
theorem formedVs_all (l:List Val):formedVs l=l.all formedV:=by induction l with|nil=>rfl|cons a l ih=>simp[formedVs,ih]
theorem formedV_spec {v:Val} (h:formedV v=true):0≤v.kind∧v.kind≤6∧(v.kind=3→numB v.num=true)∧(v.kind=6→v.keys.length=v.items.length∧SSs v.keys)∧∀ x∈v.items,formedV x=true:=by
 obtain⟨k,n,t,is,ks⟩:=v
 simp only[formedV,Bool.and_eq_true,formedVs_all,List.all_eq_true,decide_eq_true_eq] at h
 obtain⟨⟨⟨⟨⟨⟨⟨h1,h2⟩,h3⟩,h4⟩,h5⟩,h6⟩,h7⟩,h8⟩:=h
 refine⟨h1,h2,fun e=>by rw[if_pos (show k=3 from e)] at h3; exact h3,fun e=>?_,h8⟩
 have e:k=6:=e
 simp only[e,decide_true,Bool.not_true,Bool.false_or,Bool.and_eq_true,decide_eq_true_eq] at h7
 exact⟨h7.1,(riseB_SS h7.2).1⟩
def headB {α:Type} (f:α→Bool):List α→Bool
 | []=>false
 | a::_=>f a
@[simp] theorem headB_nil {α:Type} (f:α→Bool):headB f []=false:=rfl
@[simp] theorem headB_cons {α:Type} (f:α→Bool) (a:α) (l:List α):headB f (a::l)=f a:=rfl
theorem inT_def (t:Ty) (v:Val):inT t v=(t.all||(if v.kind=0 then t.null else if v.kind=1 then t.fls else if v.kind=2 then t.tru
 else if v.kind=3 then headB (inSpanB v.num) t.nums
 else if v.kind=4 then t.any||t.texts.any (sEq · v.text)
 else if v.kind=5 then headB (inA · v) t.arrays
 else t.objects.any (inO · v))):=by
 obtain⟨a,b,c,d,ns,e,ts,az,os⟩:=t
 cases ns<;>cases az<;>simp[inT,inOs_any,headB]
theorem inA_iff {a:Arr} {v:Val}:inA a v=true↔a.min≤v.items.length∧(a.max<0∨(v.items.length:Int)≤a.max)∧∀ x∈v.items,inT a.item x=true:=by
 obtain⟨t,lo,hi⟩:=a
 simp only[inA,Bool.and_eq_true,Bool.not_eq_true',Bool.or_eq_false_iff,decide_eq_false_iff_not,List.all_eq_true,Bool.and_eq_false_iff,Arr.min_mk,Arr.max_mk,Arr.item_mk]
 constructor
 ·rintro⟨⟨h1,h2⟩,h3⟩
  exact⟨by omega,by omega,h3⟩
 ·rintro⟨h1,h2,h3⟩
  exact⟨⟨by omega,by omega⟩,h3⟩
theorem idx_find {α:Type} {p:α→Bool}:∀ {l:List α} {i:Nat},l.findIdx? p=some i→∃ h:i<l.length,p l[i]=true:=fun {l i} h=>by
 obtain⟨h1,h2,_⟩:=List.findIdx?_eq_some_iff_getElem.1 h
 exact⟨h1,h2⟩
theorem getV_zip {v:Val} {s:S} {x:Val} (h:getV v s=some x):(s,x)∈v.keys.zip v.items:=by
 unfold getV at h
 split at h
 ·split at h
  ·rename_i i hi
   obtain⟨h1,h2⟩:=idx_find hi
   obtain⟨h3,h4⟩:=List.getElem?_eq_some_iff.1 h
   have:(v.keys.zip v.items)[i]'(by simp; omega)=(s,x):=by rw[List.getElem_zip,h4,sEq_iff.1 h2]
   rw[← this]
   exact List.getElem_mem _
  ·cases h
 ·cases h
theorem SSs_inj {l:List S} (h:SSs l) {i j:Nat} (hi:i<l.length) (hj:j<l.length) (e:l[i]=l[j]):i=j:=by
 have key:∀ i j (hi:i<l.length) (hj:j<l.length),i<j→l[i]≠l[j]:=fun i j hi hj hij e=>by
  have:=List.pairwise_iff_getElem.1 h i j hi hj hij
  rw[e,sCmp_eq.2 rfl] at this
  cases this
 rcases Nat.lt_trichotomy i j with h1|h1|h1
 ·exact absurd e (key i j hi hj h1)
 ·exact h1
 ·exact absurd e.symm (key j i hj hi h1)
theorem zip_getV {v:Val} {s:S} {x:Val} (h6:v.kind=6) (hs:SSs v.keys) (h:(s,x)∈v.keys.zip v.items):getV v s=some x:=by
 obtain⟨i,hi,e⟩:=List.getElem_of_mem h
 rw[List.getElem_zip] at e
 cases e
 simp only[List.length_zip] at hi
 unfold getV
 rw[if_pos h6]
 have:v.keys.findIdx? (sEq · v.keys[i])=some i:=by
  rw[List.findIdx?_eq_some_iff_getElem]
  refine⟨by omega,sEq_iff.2 rfl,fun j hj hc=>?_⟩
  have:=SSs_inj hs (by omega) (by omega) (sEq_iff.1 hc)
  omega
 rw[this]
 exact List.getElem?_eq_getElem (by omega)
theorem fieldO_cases (o:Ob) (n:S):(∃ p∈tripO o,p.1=n∧fieldO o n=p.2)∨(fieldO o n=(o.rest,false)∧∀ p∈tripO o,p.1≠n):=by
 unfold fieldO
 split
 ·rename_i p hp
  exact .inl ⟨p,List.mem_of_find?_eq_some hp,sEq_iff.1 (by simpa using List.find?_some hp),rfl⟩
 ·rename_i hp
  exact .inr ⟨rfl,fun p hm e=>by
   have:=List.find?_eq_none.1 hp p hm
   exact this (sEq_iff.2 e)⟩
theorem trip_name {o:Ob} (ho:formedO o=true) {n:S}:n∈o.names↔∃ p∈tripO o,p.1=n:=by
 obtain⟨h1,h2,_⟩:=formedO_spec ho
 have:=(trip_names h1 h2).1
 rw[← this,List.mem_map]
theorem trip_inj {o:Ob} (ho:formedO o=true) {p q:S × Ty × Bool} (hp:p∈tripO o) (hq:q∈tripO o) (e:p.1=q.1):p=q:=by
 obtain⟨h1,h2,_⟩:=formedO_spec ho
 obtain⟨i,hi,rfl⟩:=List.getElem_of_mem hp
 obtain⟨j,hj,rfl⟩:=List.getElem_of_mem hq
 have hs:=formedO_SS ho
 unfold tripO at e hi hj ⊢
 simp only[List.length_zip] at hi hj
 simp only[List.getElem_zip] at e
 have:=SSs_inj hs (by omega) (by omega) e
 subst this
 rfl
theorem fieldO_mem {o:Ob} (ho:formedO o=true) {p:S × Ty × Bool} (hp:p∈tripO o):fieldO o p.1=p.2:=by
 rcases fieldO_cases o p.1 with ⟨q,hq,e1,e2⟩|⟨_,h⟩
 ·rw[e2,trip_inj ho hq hp e1]
 ·exact absurd rfl (h p hp)
theorem fieldO_not {o:Ob} {n:S} (h:n ∉ o.names):fieldO o n=(o.rest,false):=by
 rcases fieldO_cases o n with ⟨q,hq,e1,e2⟩|⟨h,_⟩
 ·unfold tripO at hq
  obtain⟨a,b⟩:=q
  have e1:a=n:=e1
  exact absurd (List.of_mem_zip hq).1 (by rw[e1]; exact h)
 ·exact h
theorem inO_def (o:Ob) (v:Val):inO o v=(((tripO o).all fun p=>match getV v p.1 with|some x=>inT p.2.1 x|none=>!p.2.2)&&(v.keys.zip v.items).all fun p=>o.names.any (sEq · p.1)||inT o.rest p.2):=by
 obtain⟨ns,fs,ms,r⟩:=o
 simp only[inO,tripO,Ob.names_mk,Ob.fields_mk,Ob.must_mk,Ob.rest_mk,inTs_map]
 congr 1
 have:ns.zip ((fs.map inT).zip ms)=(ns.zip (fs.zip ms)).map fun p=>(p.1,inT p.2.1,p.2.2):=by
  have h1:(fs.map inT).zip ms=(fs.zip ms).map fun q=>(inT q.1,q.2):=by
   rw[List.zip_map_left]; rfl
  rw[h1,List.zip_map_right]; rfl
 rw[this,List.all_map]
 rfl
theorem names_any {l:List S} {s:S}:l.any (sEq · s)=true↔s∈l:=by
 rw[List.any_eq_true]
 exact⟨fun ⟨x,hx,e⟩=>by rw[← sEq_iff.1 e]; exact hx,fun h=>⟨s,h,sEq_iff.2 rfl⟩⟩
theorem inO_field {o:Ob} {v:Val} (ho:formedO o=true) (hv:formedV v=true) (h6:v.kind=6) :
 inO o v=true↔∀ n,(∀ x,getV v n=some x→inT (fieldO o n).1 x=true)∧(getV v n=none→(fieldO o n).2=false):=by
 obtain⟨hl,hs⟩:=(formedV_spec hv).2.2.2.1 h6
 rw[inO_def,Bool.and_eq_true,List.all_eq_true,List.all_eq_true]
 constructor
 ·rintro⟨h1,h2⟩ n
  rcases fieldO_cases o n with ⟨p,hp,e1,e2⟩|⟨e,hn⟩
  ·have:=h1 p hp
   rw[e1] at this
   rw[e2]
   refine⟨fun x hx=>by rw[hx] at this; exact this,fun hx=>by rw[hx] at this; simpa using this⟩
  ·rw[e]
   refine⟨fun x hx=>?_,fun _=>rfl⟩
   have:=h2 _ (getV_zip hx)
   rw[Bool.or_eq_true,names_any] at this
   rcases this with k|k
   ·obtain⟨p,hp,e⟩:=(trip_name ho).1 k
    exact absurd e (hn p hp)
   ·exact k
 ·intro h
  refine⟨fun p hp=>?_,fun p hp=>?_⟩
  ·have:=h p.1
   rw[fieldO_mem ho hp] at this
   cases hg:getV v p.1 with
   | none=>simp[this.2 hg]
   | some x=>exact this.1 x hg
  ·rw[Bool.or_eq_true,names_any]
   by_cases k:p.1∈o.names
   ·exact .inl k
   ·have:=(h p.1).1 p.2 (zip_getV h6 hs hp)
    rw[fieldO_not k] at this
    exact .inr this
end Go.Tidy
set_option maxRecDepth 100000
namespace Go.Proofs.YtfilonnphgnplaaGreatDoor.Pv
open Go Go.Tidy
theorem inO_idx (v:Val) (o:Ob) (hf:o.fields.length=o.names.length) (hm:o.must.length=o.names.length) (hk:v.keys.length=v.items.length) :
 (((List.range o.names.length).all (inF v o))&&(List.range v.keys.length).all fun k=>(match v.keys[k]?,v.items[k]? with|some s,some x=>o.names.any (sEq · s)||inT o.rest x|_,_=>false))=inO o v:=by
 rw[inO_def,Bool.eq_iff_iff,Bool.and_eq_true,Bool.and_eq_true,List.all_eq_true,List.all_eq_true,List.all_eq_true,List.all_eq_true]
 refine and_congr ⟨fun h p hp=>?_,fun h k hk'=>?_⟩ ⟨fun h p hp=>?_,fun h k hk'=>?_⟩
 ·obtain⟨i,hi,rfl⟩:=List.getElem_of_mem hp
  unfold tripO at hi ⊢
  simp only[List.length_zip] at hi
  have:=h i (List.mem_range.2 (by omega))
  unfold inF at this
  rw[List.getElem?_eq_getElem (show i<o.names.length by omega),List.getElem?_eq_getElem (show i<o.fields.length by omega),List.getElem?_eq_getElem (show i<o.must.length by omega)] at this
  simp only[List.getElem_zip]
  exact this
 ·have hlt:=List.mem_range.1 hk'
  have:=h (o.names[k],o.fields[k]'(by omega),o.must[k]'(by omega)) (by
   have e:(tripO o)[k]'(by unfold tripO; simp; omega)=(o.names[k],o.fields[k]'(by omega),o.must[k]'(by omega)):=by
    unfold tripO
    simp only[List.getElem_zip]
   rw[← e]
   exact List.getElem_mem _)
  unfold inF
  rw[List.getElem?_eq_getElem hlt,List.getElem?_eq_getElem (show k<o.fields.length by omega),List.getElem?_eq_getElem (show k<o.must.length by omega)]
  exact this
 ·obtain⟨i,hi,rfl⟩:=List.getElem_of_mem hp
  simp only[List.length_zip] at hi
  have:=h i (List.mem_range.2 (by omega))
  rw[List.getElem?_eq_getElem (show i<v.keys.length by omega),List.getElem?_eq_getElem (show i<v.items.length by omega)] at this
  simp only[List.getElem_zip]
  exact this
 ·have hlt:=List.mem_range.1 hk'
  have:=h (v.keys[k],v.items[k]'(by omega)) (by
   have e:(v.keys.zip v.items)[k]'(by simp; omega)=(v.keys[k],v.items[k]'(by omega)):=by simp only[List.getElem_zip]
   rw[← e]
   exact List.getElem_mem _)
  rw[List.getElem?_eq_getElem hlt,List.getElem?_eq_getElem (show k<v.items.length by omega)]
  exact this
theorem inLB_eq (a:Arr) (v:Val):inLB a v.items=inA a v:=by
 obtain⟨t,lo,hi⟩:=a
 rfl
set_option maxHeartbeats 4000000 in
theorem in_walk (t:Ty) (v:Val) (hv:formedV v=true) (hn:∀ s∈t.nums,spanB s=true) (hA:∀ a∈t.arrays,Ret prog M.F_ref09_inArr [.vec 5 false (v.items.map encVal),.agg (cA a)] (.bool (inA a v)))
 (hO:v.kind=6→∀ o∈t.objects,Ret prog M.F_ref09_InObj [.agg (cV v),.agg (cO o)] (.bool (inO o v))):Ret prog M.F_ref09_In [.agg (cV v),.agg (cT t)] (.bool (inT t v)):=by
 refine Ret.go hmix h_ref09_In (by simp) fun hb w0 F0 hG=>?_
 simp only[bndL,bndV,List.length_map,LIM,and_true] at hb
 obtain⟨v1,v2,v3,v4,v5⟩:=formedV_spec hv
 cases ha:t.all
 case true =>
   have hB:inT t v=true:=by rw[inT_def,ha]; rfl
   rw[hB]
   simp[ha]
 have hB:=inT_def t v
 rw[ha,Bool.false_or] at hB
 by_cases k0:v.kind=0
 ·rw[if_pos k0] at hB
  rw[hB]
  simp[ha,k0]
 rw[if_neg k0] at hB
 by_cases k1:v.kind=1
 ·rw[if_pos k1] at hB
  rw[hB]
  simp[ha,k1]
 rw[if_neg k1] at hB
 by_cases k2:v.kind=2
 ·rw[if_pos k2] at hB
  rw[hB]
  simp[ha,k2]
 rw[if_neg k2] at hB
 by_cases k3:v.kind=3
 ·rw[if_pos k3] at hB
  rw[hB]
  have hnum:=v3 k3
  cases hns:t.nums with
  | nil=>simp[ha,k3,hns]
  | cons s ns =>
    have hs:=hn s (by rw[hns]; simp)
    obtain⟨b1,b2,_⟩:=spanB_iff.1 hs
    have c1:=c_ref09_InSpan v.num s hnum b1 b2
    have hl:(0:Int)<(ns.length:Int)+1:=by omega
    simp[ha,k3,hns,hl]
    intros
    refine XDCall.ret (by first|exact c1|(simp; exact c1)) ?_
    simp
 rw[if_neg k3] at hB
 by_cases k4:v.kind=4
 ·rw[if_pos k4] at hB
  cases hany:t.any
  case true =>
    rw[hany,Bool.true_or] at hB
    rw[hB]
    simp[ha,k4,hany]
  rw[hany,Bool.false_or] at hB
  generalize hBB:inT t v=B at *
  simp[ha,k4,hany]
  intro w1 w2
  obtain⟨J,hJ⟩ : ∃ J:Nat→Unit→Prop,J=fun k _=>AllTo (fun u=>!sEq u v.text) t.texts k:=⟨_,rfl⟩
  refine XLoop.cnt hmix t.texts.length (fun k _=>⟨[(5,.int .i64 k),(4,.bool false),(3,.ptr (3,w2) 9 0 0),(2,.ptr (2,w1) 5 0 0)],[((3,w2),some ⟨9,[cT t],false,true⟩),((2,w1),some ⟨5,[cV v],false,true⟩)]⟩) J () (by rw[hJ]; exact .zero) (by simp) fun k _ hk hj=>?_
  have hw:=wrap64 (n:=(k:Int)+1) (by omega) (by omega)
  have hj' : AllTo (fun u=>!sEq u v.text) t.texts k:=by rw[hJ] at hj; exact hj
  by_cases g1:k<t.texts.length
  ·cases e1:sEq t.texts[k] v.text
   ·simp[g1,e1,hw]
    exact⟨(),by rw[hJ]; exact hj'.step g1 (by simp[e1])⟩
   ·have hBt:B=true:=by rw[hB,List.any_eq_true]; exact⟨t.texts[k],List.getElem_mem g1,e1⟩
    simp[g1,e1,hBt]
  ·have hBf:B=false:=by
      rw[hB]
      have:=hj'.all g1
      rw[List.all_eq_true] at this
      exact List.any_eq_false.2 fun x hx=>by simpa using this x hx
   simp[g1,hBf]
 rw[if_neg k4] at hB
 by_cases k5:v.kind=5
 ·rw[if_pos k5] at hB
  rw[hB]
  cases hz:t.arrays with
  | nil=>simp[ha,k5,hz]
  | cons a az =>
    have c1:=hA a (by rw[hz]; simp)
    have hl:(0:Int)<(az.length:Int)+1:=by omega
    simp[ha,k5,hz,hl]
    intros
    refine XDCall.ret (by first|exact c1|(simp; exact c1)) ?_
    simp
 rw[if_neg k5] at hB
 have k6:v.kind=6:=by omega
 generalize hBB:inT t v=B at *
 simp[ha,k6]
 intro w1 w2
 obtain⟨J,hJ⟩ : ∃ J:Nat→Unit→Prop,J=fun k _=>AllTo (fun u=>!inO u v) t.objects k:=⟨_,rfl⟩
 refine XLoop.cnt hmix t.objects.length (fun k _=>⟨[(6,.int .i64 k),(4,.bool false),(3,.ptr (3,w2) 9 0 0),(2,.ptr (2,w1) 5 0 0)],[((3,w2),some ⟨9,[cT t],false,true⟩),((2,w1),some ⟨5,[cV v],false,true⟩)]⟩) J () (by rw[hJ]; exact .zero) (by simp) fun k _ hk hj=>?_
 have hw:=wrap64 (n:=(k:Int)+1) (by omega) (by omega)
 have hj' : AllTo (fun u=>!inO u v) t.objects k:=by rw[hJ] at hj; exact hj
 by_cases g1:k<t.objects.length
 ·have c1:=hO k6 _ (List.getElem_mem g1)
  cases e1:inO t.objects[k] v
  ·have hJn:J (k+1) ():=by rw[hJ]; exact hj'.step g1 (by simp[e1])
   rw[e1] at c1
   simp[g1]
   intros
   refine XDCall.ret (by first|exact c1|(simpa using c1)) ?_
   simp[g1,hw]
   exact⟨(),hJn⟩
  ·have hBt:B=true:=by rw[hB,List.any_eq_true]; exact⟨t.objects[k],List.getElem_mem g1,e1⟩
   rw[e1] at c1
   simp[g1]
   intros
   refine XDCall.ret (by first|exact c1|(simpa using c1)) ?_
   simp[g1,hBt]
 ·have hBf:B=false:=by
     rw[hB]
     have:=hj'.all g1
     rw[List.all_eq_true] at this
     exact List.any_eq_false.2 fun x hx=>by simpa using this x hx
  simp[g1,hBf]
theorem c_ref09_In:∀ (t:Ty) (v:Val),formedT t=true→formedV v=true→Ret prog M.F_ref09_In [.agg (cV v),.agg (cT t)] (.bool (inT t v)):=by
 intro t
 induction hn:SizeOf.sizeOf t using Nat.strongRecOn generalizing t with
 | _ n ih =>
   subst hn
   intro v ht hv
   obtain⟨f1,f2,f3,f4,f5,f6,f7,f8⟩:=formedT_spec ht
   obtain⟨v1,v2,v3,v4,v5⟩:=formedV_spec hv
   refine in_walk t v hv f5 (fun a ha=>?_) fun h6 o ho=>?_
   ·rw[← inLB_eq]
    exact inArr_step v.items a fun x hx=>ih _ (sz_item ha) a.item rfl x (formedA_spec (f7 a ha)).2.2.2.1 (v5 x hx)
   ·obtain⟨o1,o2,o3,o4,o5,o6⟩:=formedO_spec (f8 o ho)
    have hk:=(v4 h6).1
    rw[← inO_idx v o (by omega) (by omega) hk]
    exact inObj_step v o (by omega) (by omega) hk (fun f hf x hx=>ih _ (sz_field ho hf) f rfl x (o5 f hf) (v5 x hx)) fun x hx=>ih _ (sz_rest ho) o.rest rfl x o4 (v5 x hx)
end Go.Proofs.YtfilonnphgnplaaGreatDoor.Pv
set_option maxRecDepth 100000
namespace Go.Proofs.YtfilonnphgnplaaGreatDoor.Pv
open Go Go.Tidy
theorem val_sz {v x:Val} (h:x∈v.items):SizeOf.sizeOf x<SizeOf.sizeOf v:=by
 obtain⟨k,n,t,is,ks⟩:=v
 have:=List.sizeOf_lt_of_mem h
 simp only[Val.items] at this
 simp only[Val.mk.sizeOf_spec]
 omega
theorem all_step (l:List Val) (h:∀ v∈l,Ret prog M.F_ref03_Formed [.agg (cV v)] (.bool (formedV v))):Ret prog M.F_ref03_All [.vec 5 false (l.map encVal)] (.bool (l.all formedV)):=by
 refine Ret.go hmix h_ref03_All (by simp) fun hb w0 F0 hG=>?_
 simp only[bndL,bndV,List.length_map,LIM,and_true] at hb
 generalize hB:l.all formedV=B
 obtain⟨J,hJ⟩ : ∃ J:Nat→Unit→Prop,J=fun k _=>AllTo formedV l k:=⟨_,rfl⟩
 simp
 refine XLoop.cnt hmix l.length (fun k _=>⟨[(3,.int .i64 k),(2,.bool false),(0,.vec 5 false (l.map encVal))],[]⟩) J () (by rw[hJ]; exact .zero) (by simp) fun k _ hk hj=>?_
 have hw:=wrap64 (n:=(k:Int)+1) (by omega) (by omega)
 have hj' : AllTo formedV l k:=by rw[hJ] at hj; exact hj
 by_cases q1:k<l.length
 ·have c1:=h _ (List.getElem_mem q1)
  cases e1:formedV l[k]
  ·have hBf:B=false:=by rw[← hB,List.all_eq_false]; exact⟨l[k],List.getElem_mem q1,by simp[e1]⟩
   rw[e1] at c1
   simp[q1]
   refine XCall.ret (by simpa using c1) ?_
   simp[hBf]
  ·have hJn:J (k+1) ():=by rw[hJ]; exact hj'.step q1 e1
   rw[e1] at c1
   simp[q1]
   refine XCall.ret (by simpa using c1) ?_
   simp[q1,hw]
   exact⟨(),hJn⟩
 ·have hBt:B=true:=by rw[← hB]; exact hj'.all q1
  simp[q1,hBt]
theorem formedV_def (v:Val):formedV v=(decide (0≤v.kind)&&decide (v.kind≤6)&&(if v.kind=3 then numB v.num else sEmp v.num)&&(if v.kind=4 then utfB v.text else sEmp v.text)&&(decide (5≤v.kind)||v.items.isEmpty)&&(decide (6≤v.kind)||v.keys.isEmpty) &&
 (!decide (v.kind=6)||(decide (v.keys.length=v.items.length)&&riseB v.keys))&&v.items.all formedV):=by
 obtain⟨k,n,t,is,ks⟩:=v
 rw[formedV,formedVs_all]; rfl
set_option maxHeartbeats 8000000 in
theorem formedV_walk (v:Val) (h:∀ x∈v.items,Ret prog M.F_ref03_Formed [.agg (cV x)] (.bool (formedV x))):Ret prog M.F_ref03_Formed [.agg (cV v)] (.bool (formedV v)):=by
 refine Ret.go hmix h_ref03_Formed (by simp) fun hb w0 F0 hG=>?_
 simp only[bndL,bndV,List.length_map,LIM,and_true] at hb
 have cA:=all_step v.items h
 have cN:=c_ref03_Number v.num
 have cU:=c_ref03_UTF v.text
 have cR:=c_ref03_Rise v.keys
 have hD:=formedV_def v
 generalize hB:formedV v=B at *
 generalize hAA:v.items.all formedV=A at *
 have nI:∀ {n:Nat},(0:Int)<(n:Int)↔0<n:=by omega
 have eI:v.items.isEmpty=!decide (0<v.items.length):=by cases v.items<;>simp
 have eK:v.keys.isEmpty=!decide (0<v.keys.length):=by cases v.keys<;>simp
 rw[eI,eK] at hD
 have hA0:¬ 0<v.items.length→A=true:=fun h0=>by
  rw[← hAA,List.length_eq_zero_iff.1 (show v.items.length=0 by omega)]; rfl
 by_cases a1:v.kind<0
 ·have hB' : B=false:=by rw[hD]; simp[show ¬ 0≤v.kind by omega]
  simp[a1,hB']
 by_cases a2:6<v.kind
 ·have hB' : B=false:=by rw[hD]; simp[show ¬ v.kind≤6 by omega]
  simp[a1,a2,hB']
 have hk:v.kind=3∨v.kind=4∨v.kind=5∨v.kind=6∨v.kind=0∨v.kind=1∨v.kind=2:=by omega
 rcases hk with k|k|k|k|k|k|k
 ·cases e1:numB v.num
  ·rw[e1] at cN hD
   simp[k] at hD
   simp[k]
   intros
   refine XCall.ret cN ?_
   simp[k,hD]
  rw[e1] at cN hD
  cases e2:sEmp v.text
  ·rw[e2] at hD
   simp[k] at hD
   simp[k]
   intros
   refine XCall.ret cN ?_
   simp[k,e2,hD]
  by_cases e3:0<v.items.length
  ·simp[k,e3] at hD
   simp[k]
   intros
   refine XCall.ret cN ?_
   simp[k,e2,e3,nI,hD]
  by_cases e4:0<v.keys.length
  ·simp[k,e4] at hD
   simp[k]
   intros
   refine XCall.ret cN ?_
   simp[k,e2,e3,e4,nI,hD]
  rw[e2] at hD
  simp[k,e3,e4] at hD
  simp[k]
  intros
  refine XCall.ret cN ?_
  simp[k,e2,e3,e4,nI]
  intros
  refine XCall.ret (by first|exact cA|(simpa using cA)) ?_
  simp[hD]
 ·cases e1:sEmp v.num
  ·rw[e1] at hD
   simp[k] at hD
   simp[k,e1,hD]
  rw[e1] at hD
  cases e2:utfB v.text
  ·rw[e2] at cU hD
   simp[k] at hD
   simp[k,e1]
   intros
   refine XCall.ret cU ?_
   simp[k,hD]
  rw[e2] at cU hD
  by_cases e3:0<v.items.length
  ·simp[k,e3] at hD
   simp[k,e1]
   intros
   refine XCall.ret cU ?_
   simp[k,e3,nI,hD]
  by_cases e4:0<v.keys.length
  ·simp[k,e4] at hD
   simp[k,e1]
   intros
   refine XCall.ret cU ?_
   simp[k,e3,e4,nI,hD]
  simp[k,e3,e4] at hD
  simp[k,e1]
  intros
  refine XCall.ret cU ?_
  simp[k,e3,e4,nI]
  intros
  refine XCall.ret (by first|exact cA|(simpa using cA)) ?_
  simp[hD]
 ·cases e1:sEmp v.num
  ·rw[e1] at hD
   simp[k] at hD
   simp[k,e1,hD]
  rw[e1] at hD
  cases e2:sEmp v.text
  ·rw[e2] at hD
   simp[k] at hD
   simp[k,e1,e2,hD]
  rw[e2] at hD
  by_cases e4:0<v.keys.length
  ·simp[k,e4] at hD
   simp[k,e1,e2,e4,nI,hD]
  simp[k,e4] at hD
  simp[k,e1,e2,e4,nI]
  intros
  refine XCall.ret (by first|exact cA|(simpa using cA)) ?_
  simp[hD]
 ·cases e1:sEmp v.num
  ·rw[e1] at hD
   simp[k] at hD
   simp[k,e1,hD]
  rw[e1] at hD
  cases e2:sEmp v.text
  ·rw[e2] at hD
   simp[k] at hD
   simp[k,e1,e2,hD]
  rw[e2] at hD
  by_cases e4:v.keys.length=v.items.length
  ·have e4' : (v.keys.length:Int)=v.items.length:=by omega
   cases e5:riseB v.keys
   ·rw[e5] at hD cR
    simp[k] at hD
    simp[k,e1,e2,e4']
    intros
    refine XCall.ret (by first|exact cR|(simpa using cR)) ?_
    simp[hD]
   rw[e5] at hD cR
   simp[k,e4] at hD
   simp[k,e1,e2,e4']
   intros
   refine XCall.ret (by first|exact cR|(simpa using cR)) ?_
   simp
   intros
   refine XCall.ret (by first|exact cA|(simpa using cA)) ?_
   simp[hD]
  ·have e4' : ¬ (v.keys.length:Int)=v.items.length:=by omega
   simp[k,e4] at hD
   simp[k,e1,e2,e4',hD]
 all_goals
   cases e1:sEmp v.num
   ·rw[e1] at hD
    simp[k] at hD
    simp[k,e1,hD]
   rw[e1] at hD
   cases e2:sEmp v.text
   ·rw[e2] at hD
    simp[k] at hD
    simp[k,e1,e2,hD]
   rw[e2] at hD
   by_cases e3:0<v.items.length
   ·simp[k,e3] at hD
    simp[k,e1,e2,e3,nI,hD]
   by_cases e4:0<v.keys.length
   ·simp[k,e3,e4] at hD
    simp[k,e1,e2,e3,e4,nI,hD]
   simp[k,e3,e4] at hD
   simp[k,e1,e2,e3,e4,nI]
   intros
   refine XCall.ret (by first|exact cA|(simpa using cA)) ?_
   simp[hD]
theorem c_ref03_Formed (v:Val):Ret prog M.F_ref03_Formed [.agg (cV v)] (.bool (formedV v)):=by
 induction hn:SizeOf.sizeOf v using Nat.strongRecOn generalizing v with
 | _ n ih =>
   subst hn
   exact formedV_walk v fun x hx=>ih _ (val_sz hx) x rfl
def stepV (R:Val→Int→Int) (m n:Int) (x:Val):Int:=if n≤m then IntKind.i64.wrap (n+R x (IntKind.i64.wrap (m-n))) else n
theorem foldV_stop {R:Val→Int→Int} {m n:Int} (h:¬ n≤m):∀ l:List Val,l.foldl (stepV R m) n=n
 | []=>rfl
 | x::l=>by
   rw[List.foldl_cons]
   have:stepV R m n x=n:=by unfold stepV; rw[if_neg h]
   rw[this,foldV_stop h l]
set_option maxHeartbeats 4000000 in
theorem partsV_walk (v:Val) (m:Int) (R:Val→Int→Int) (h:∀ x∈v.items,∀ m,Ret prog M.F_kit_PartsOf [.agg (cV x),.int .i64 m] (.int .i64 (R x m))) :
 Ret prog M.F_kit_PartsOf [.agg (cV v),.int .i64 m] (.int .i64 (IntKind.i64.wrap (v.items.foldl (stepV R m) 1+v.keys.length))):=by
 refine Ret.go hmix h_kit_PartsOf (by simp) fun hb w0 F0 hG=>?_
 simp only[bndL,bndV,List.length_map,LIM,and_true] at hb
 generalize hN:v.items.foldl (stepV R m) 1=N
 obtain⟨J,hJ⟩ : ∃ J:Nat→Int→Prop,J=fun k n=>n=(v.items.take k).foldl (stepV R m) 1:=⟨_,rfl⟩
 simp
 intro w1
 refine XLoop.cnt hmix v.items.length (fun k n=>⟨[(6,.int .i64 k),(5,.int .i64 n),(4,.int .i64 0),(2,.ptr (2,w1) 5 0 0),(1,.int .i64 m)],[((2,w1),some ⟨5,[cV v],false,true⟩)]⟩) J 1 (by rw[hJ]; rfl) (by simp) fun k n hk hj=>?_
 have hw:=wrap64 (n:=(k:Int)+1) (by omega) (by omega)
 have hj' : n=(v.items.take k).foldl (stepV R m) 1:=by rw[hJ] at hj; exact hj
 have hsp:v.items.foldl (stepV R m) 1=(v.items.drop k).foldl (stepV R m) n:=by
  rw[hj',← List.foldl_append,List.take_append_drop]
 by_cases q1:k<v.items.length
 ·by_cases q2:n≤m
  ·have c1:=h _ (List.getElem_mem q1) (IntKind.i64.wrap (m-n))
   have hJn:J (k+1) (IntKind.i64.wrap (n+R v.items[k] (IntKind.i64.wrap (m-n)))):=by
    rw[hJ]
    show _=_
    rw[List.take_succ_eq_append_getElem q1,List.foldl_append,← hj',List.foldl_cons,List.foldl_nil]
    unfold stepV
    rw[if_pos q2]
   simp[q1,q2]
   refine XCall.ret (by first|exact c1|(simpa using c1)) ?_
   simp[q1,hw]
   exact hJn
  ·rw[foldV_stop q2,hN] at hsp
   simp[q1,q2,hsp]
 ·rw[List.drop_eq_nil_of_le (by omega),hN] at hsp
  have hsp:N=n:=hsp
  simp[q1,hsp]
theorem c_kit_PartsOf (v:Val):∃ r:Int→Int,∀ m,Ret prog M.F_kit_PartsOf [.agg (cV v),.int .i64 m] (.int .i64 (r m)):=by
 induction hn:SizeOf.sizeOf v using Nat.strongRecOn generalizing v with
 | _ n ih =>
   subst hn
   have:∃ R:Val→Int→Int,∀ x∈v.items,∀ m,Ret prog M.F_kit_PartsOf [.agg (cV x),.int .i64 m] (.int .i64 (R x m)):=by
    classical
    refine⟨fun x=>if h:∃ r:Int→Int,∀ m,Ret prog M.F_kit_PartsOf [.agg (cV x),.int .i64 m] (.int .i64 (r m)) then h.choose else fun _=>0,fun x hx=>?_⟩
    have h:=ih _ (val_sz hx) x rfl
    simp only[dif_pos h]
    exact h.choose_spec
   obtain⟨R,hR⟩:=this
   exact⟨_,fun m=>partsV_walk v m R hR⟩
theorem c_kit_Fit1 (v:Val):∃ b,Ret prog M.F_kit_Fit [.vec 5 false [cV v]] (.bool b):=by
 obtain⟨r,hr⟩:=c_kit_PartsOf v
 refine⟨decide (IntKind.i64.wrap (r 20000)≤20000),Ret.go hmix h_kit_Fit (by simp) fun hb w0 F0 hG=>?_⟩
 have c1:=hr 20000
 have hw:IntKind.i64.wrap 20000=20000:=wrap64 (by omega) (by omega)
 have hw1:IntKind.i64.wrap 1=1:=wrap64 (by omega) (by omega)
 generalize r 20000=y at *
 generalize hx:IntKind.i64.wrap y=x
 simp
 refine XLoop.rnd hmix (.s (.s .z)) ?_
 simp[XRnd_s,hw]
 refine XCall.ret (by first|exact c1|(simpa using c1)) ?_
 by_cases g:x≤20000
 ·have g' : ¬ 20000<x:=by omega
  simp[hx,g,g',hw1,XRnd_s]
 ·have g' : 20000<x:=by omega
  simp[hx,g,g']
end Go.Proofs.YtfilonnphgnplaaGreatDoor.Pv
namespace Go.Tidy
open Go
theorem in_every (v:Val):inT tEvery v=true:=by rw[inT_def]; rfl
theorem belTs_map (l:List Ty):belTs l=l.map belT:=by
 induction l with
 | nil=>simp[belTs]
 | cons a l ih=>simp[belTs,ih]
theorem belO_def (o x:Ob):belO o x=((x.names++o.names).all (fun n=>(!(fieldO o n).2||(fieldO x n).2)&&belT (fieldO o n).1 (fieldO x n).1)&&belT o.rest x.rest):=by
 obtain⟨ns,fs,ms,r⟩:=o
 simp only[belO,Ob.names_mk,Ob.rest_mk]
 congr 1
 refine congrArg _ (funext fun n=>?_)
 generalize fieldO x n=q
 have:ns.zip ((belTs fs).zip ms)=(ns.zip (fs.zip ms)).map fun p=>(p.1,belT p.2.1,p.2.2):=by
  have h1:(belTs fs).zip ms=(fs.zip ms).map fun q=>(belT q.1,q.2):=by
   rw[belTs_map,List.zip_map_left]; rfl
  rw[h1,List.zip_map_right]; rfl
 rw[this,List.find?_map]
 have e:((fun p:S × (Ty→Bool) × Bool=>sEq p.1 n)∘fun p:S × Ty × Bool=>(p.1,belT p.2.1,p.2.2))=fun p=>sEq p.1 n:=rfl
 rw[e]
 simp only[fieldO,Ob.names_mk,Ob.fields_mk,Ob.must_mk,Ob.rest_mk]
 cases (ns.zip (fs.zip ms)).find? (fun p=>sEq p.1 n)<;>simp
theorem fieldO_map {N:Ty→Ty} {o:Ob} (n:S):fieldO (.mk o.names (o.fields.map N) o.must (N o.rest)) n=(N (fieldO o n).1,(fieldO o n).2):=by
 unfold fieldO
 simp only[Ob.names_mk,Ob.fields_mk,Ob.must_mk,Ob.rest_mk]
 have:o.names.zip ((o.fields.map N).zip o.must)=(o.names.zip (o.fields.zip o.must)).map fun p=>(p.1,N p.2.1,p.2.2):=by
  have h1:(o.fields.map N).zip o.must=(o.fields.zip o.must).map fun q=>(N q.1,q.2):=by
   rw[List.zip_map_left]; rfl
  rw[h1,List.zip_map_right]; rfl
 rw[this,List.find?_map]
 have e:((fun p:S × Ty × Bool=>sEq p.1 n)∘fun p:S × Ty × Bool=>(p.1,N p.2.1,p.2.2))=fun p=>sEq p.1 n:=rfl
 rw[e]
 cases (o.names.zip (o.fields.zip o.must)).find? (fun p=>sEq p.1 n)<;>rfl
theorem formed_mapO {N:Ty→Ty} (hN:∀ t,formedT t=true→formedT (N t)=true) (hv' : ∀ t,formedT t=true→never (N t)=never t) {o:Ob} (ho:formedO o=true):formedO (.mk o.names (o.fields.map N) o.must (N o.rest))=true:=by
 obtain⟨h1,h2,h3,h4,h5,h6⟩:=formedO_spec ho
 refine formedO_intro (by simpa using h1) h2 h3 (hN _ h4) (fun f hf=>?_) (fun p hp hm=>?_)
 ·obtain⟨g,hg,rfl⟩:=List.mem_map.1 (show f∈o.fields.map N from hf)
  exact hN _ (h5 g hg)
 ·have hp:p∈(o.fields.map N).zip o.must:=hp
  rw[List.zip_map_left] at hp
  obtain⟨q,hq,rfl⟩:=List.mem_map.1 hp
  have:=h6 q hq hm
  show never (N q.1)=false
  rw[hv' _ (h5 _ (List.of_mem_zip hq).1)]; exact this
end Go.Tidy
namespace Go.Tidy
open Go
theorem trip_len (o:Ob):(tripO o).length≤o.names.length:=by unfold tripO; rw[List.length_zip]; omega
def partsO (o:Ob):Nat:=partsT o.rest+partsTs o.fields
def sumP {α:Type} (f:α→Nat) (l:List α):Nat:=(l.map f).foldr (·+·) 0
theorem sumP_cons {α:Type} (f:α→Nat) (a:α) (l:List α):sumP f (a::l)=f a+sumP f l:=rfl
theorem partsOs_sum:∀ l:List Ob,partsOs l=sumP partsO l
 | []=>rfl
 | .mk ns fs ms r::l=>by rw[partsOs,sumP_cons,partsOs_sum l]; rfl
theorem partsAs_sum:∀ l:List Arr,partsAs l=sumP (fun a=>partsT a.item) l
 | []=>rfl
 | .mk t lo hi::l=>by rw[partsAs,sumP_cons,partsAs_sum l]; rfl
theorem partsT_def (t:Ty):partsT t=1+(sumP (fun a=>partsT a.item) t.arrays+sumP partsO t.objects):=by
 obtain⟨a,b,c,d,ns,e,ts,az,os⟩:=t
 rw[partsT,partsAs_sum,partsOs_sum]; rfl
end Go.Tidy
set_option maxRecDepth 100000
namespace Go.Proofs.YtfilonnphgnplaaGreatDoor.Pv
open Go Go.Tidy
end Go.Proofs.YtfilonnphgnplaaGreatDoor.Pv
set_option maxRecDepth 100000
namespace Go.Proofs.YtfilonnphgnplaaGreatDoor.Pv
open Go Go.Tidy
end Go.Proofs.YtfilonnphgnplaaGreatDoor.Pv
namespace Go.Proofs.YtfilonnphgnplaaGreatDoor.Pv
open Go Go.RowKit
mutual
def geV (M:Nat):PV→Prop
 | .own g _ _ _ _|.ptr g _ _ _=>M≤g.2
 | .agg cs=>geL M cs
 | .tup cs=>geL M cs
 | .fn _ a b=>geL M a∧geL M b
 | .iface _ x=>geV M x
 | .opt _ x=>geV M x
 | .undef|.bool _|.int _ _|.str _|.nilp|.nilf|.nili|.vec _ _ _|.ref _|.raw _=>True
def geL (M:Nat):List PV→Prop
 | []=>True
 | x::xs=>geV M x∧geL M xs
end
def geR (M:Nat):List (List PV)→Prop
 | []=>True
 | x::xs=>geL M x∧geR M xs
def geH (M:Nat) (h:List (Key × Option HE)):Prop:=∀ p∈h,M≤p.1.2∧∀ e,p.2=some e→e.bx=true→geR M e.xs
theorem geR_of {M:Nat}:∀ {l:List (List PV)},(∀ r∈l,geL M r)→geR M l
 | [],_=>trivial
 | r::l,h=>⟨h r (by simp),geR_of fun x hx=>h x (by simp[hx])⟩
def joinC (M:Nat) (c c1:Ctx):Ctx:=⟨fun k=>if k.2<M then c.β k else c1.β k,fun k=>if k.2<M then c.es k else c1.es k,fun k=>c.U k∨(M≤k.2∧c1.U k),c1.Fz⟩
section
variable {M:Nat} {c c1:Ctx} {w:World}
theorem join_at {k:Key} (h:M≤k.2):(joinC M c c1).β k=c1.β k∧(joinC M c c1).es k=c1.es k:=⟨if_neg (by omega),if_neg (by omega)⟩
theorem join_le (hN:∀ k,c.U k→k.2<M) (hF:∀ b,c.Fz b→c1.Fz b):c.Le (joinC M c c1):=⟨fun _ h=>.inl h,fun k h=>if_pos (hN k h),fun k h=>if_pos (hN k h),hF⟩
mutual
theorem ge_rep:∀ (x:PV) (v:Value),geV M x→RepV w c1 x v→RepV w (joinC M c c1) x v
 | .own g e o l f,v,hg,h=>by
   have hg:M≤g.2:=hg
   obtain⟨j1,j2⟩:=join_at (c:=c) (c1:=c1) hg
   obtain⟨h1,h2,h3,a,cap,h4⟩:=h
   refine⟨.inr ⟨hg,h1⟩,by rw[j2]; exact h2,h3,a,cap,?_⟩
   rw[j1]
   exact h4
 | .ptr g e i o,v,hg,h=>by
   have hg:M≤g.2:=hg
   obtain⟨j1,j2⟩:=join_at (c:=c) (c1:=c1) hg
   obtain⟨h1,h2,ad,h3,h4⟩:=h
   exact⟨.inr ⟨hg,h1⟩,by rw[j2]; exact h2,ad,by rw[j1]; exact h3,h4⟩
 | .agg cs,v,hg,h=>by
   obtain⟨vs,e,h1,h2⟩:=h
   exact⟨vs,e,ge_repL cs _ hg h1,h2⟩
 | .tup cs,v,hg,h=>by
   obtain⟨vs,e,h1⟩:=h
   exact⟨vs,e,ge_repL cs _ hg h1⟩
 | .fn f a b,v,hg,h=>by
   obtain⟨x,y,e,h1,h2⟩:=h
   exact⟨x,y,e,ge_repL a _ hg.1 h1,ge_repL b _ hg.2 h2⟩
 | .iface t x,v,hg,h=>by
   obtain⟨u,e,h1⟩:=h
   exact⟨u,e,ge_rep x u hg h1⟩
 | .opt b x,v,hg,h=>⟨fun hb=>ge_rep x v hg (h.1 hb),h.2⟩
 | .vec e f xs,v,_,h=>by
   obtain⟨a,cap,h1,h2,h3,h4,h5,h6⟩:=h
   refine⟨a,cap,h1,h2,h3,h4,h5,?_⟩
   rcases h6 with h6|⟨ad,e1,e2,e3,e4⟩
   ·exact .inl h6
   ·exact .inr ⟨ad,e1,e2,e3,RepRows.mono e ad.block rfl _ xs (c:=c1.d) (c':=(joinC M c c1).d) (Mono.refl _ _) (Ctx.Le.d fun _ h=>h) e4⟩
 | .ref cs,v,_,h=>by
   obtain⟨ad,e1,e2,e3,e4⟩:=h
   exact⟨ad,e1,e2,e3,RepAt.mono ad.block rfl _ cs (c:=c1.d) (c':=(joinC M c c1).d) (Mono.refl _ _) (Ctx.Le.d fun _ h=>h) e4⟩
 | .undef,_,_,h|.bool _,_,_,h|.int _ _,_,_,h|.str _,_,_,h|.nilp,_,_,h|.nilf,_,_,h|.nili,_,_,h|.raw _,_,_,h=>h
theorem ge_repL:∀ (xs:List PV) (vs:List Value),geL M xs→RepL w c1 xs vs→RepL w (joinC M c c1) xs vs
 | [],_,_,h=>h
 | x::xs,_,hg,h=>by
   obtain⟨u,us,e,h1,h2⟩:=h
   exact⟨u,us,e,ge_rep x u hg.1 h1,ge_repL xs us hg.2 h2⟩
end
theorem ge_repAt {b:Nat}:∀ (o:Nat) (xs:List PV),geL M xs→RepAt w c1 b o xs→RepAt w (joinC M c c1) b o xs
 | _,[],_,_=>trivial
 | o,x::xs,hg,h=>by
   obtain⟨⟨v,h1,h2,h3⟩,h4⟩:=h
   exact⟨⟨v,h1,h2,ge_rep x v hg.1 h3⟩,ge_repAt (o+1) xs hg.2 h4⟩
theorem ge_repRows {n b:Nat}:∀ (o:Nat) (xs:List (List PV)),geR M xs→RepRows w c1 n b o xs→RepRows w (joinC M c c1) n b o xs
 | _,[],_,_=>trivial
 | o,x::xs,hg,h=>by
   obtain⟨h1,h2,h3⟩:=h
   exact⟨h1,ge_repAt o x hg.1 h2,ge_repRows (o+n) xs hg.2 h3⟩
theorem ge_hrep {k:Key} {e:HE} (hk' : M≤k.2) (hg:e.bx=true→geR M e.xs) (h:HRep w c1 k e):HRep w (joinC M c c1) k e:=by
 obtain⟨j1,j2⟩:=join_at (c:=c) (c1:=c1) hk'
 obtain⟨h1,h2,h3⟩:=h
 refine⟨.inr ⟨hk',h1⟩,by rw[j2]; exact h2,?_⟩
 rw[j1]
 cases hb:c1.β k with
 | none=>rw[hb] at h3; exact h3
 | some ad =>
   rw[hb] at h3
   obtain⟨a1,a2,a3,a4⟩:=h3
   refine⟨a1,a2,?_,a4⟩
   cases hx:e.bx
   ·rw[hx] at a3
    exact RepRows.mono e.esz ad.block rfl _ e.xs (c:=c1.d) (c':=(joinC M c c1).d) (Mono.refl _ _) (Ctx.Le.d fun _ h=>h) (by simpa using a3)
   ·rw[hx] at a3
    exact ge_repRows _ _ (hg hx) (by simpa using a3)
end
theorem hk_app (k:Key):∀ (h h' : List (Key × Option HE)),(∃ e,hk k (h++h')=e∧(k,e)∈h∧hk k h=e)∨(hk k (h++h')=hk k h'∧(∀ e,(k,e) ∉ h)∧hk k h=none)
 | [],h'=>.inr ⟨rfl,by simp,rfl⟩
 | (j,x)::h,h'=>by
   rw[List.cons_append,hk_cons,hk_cons]
   by_cases e:k=j
   ·subst e
    exact .inl ⟨x,by rw[if_pos rfl],by simp,by rw[if_pos rfl]⟩
   ·rw[if_neg e,if_neg e]
    rcases hk_app k h h' with ⟨y,h1,h2,h3⟩|⟨h1,h2,h3⟩
    ·exact .inl ⟨y,h1,by simp[h2],h3⟩
    ·exact .inr ⟨h1,fun y hy=>by
        rcases List.mem_cons.1 hy with q|q
        ·cases q; exact e rfl
        ·exact h2 y q,h3⟩
def LH (h h' : List (Key × Option HE)):Prop:=subH (fun k=>hk k h) h' h
theorem LH_eq {h h' : List (Key × Option HE)}:LH h h'=subH (fun k=>hk k h) h' h:=rfl
def RetN (P:Program) (f:FuncId) (args:List PV) (K:PV→List (Key × Option HE)→Prop):Prop :=
 callable P f=true∧∀ (M:Nat) (w:World) (F:Nat→Prop) (vs:List Value) (hG:GOk P w F),(∀ b,F b→b<w.heap.size)→RepL w (dctx F) args vs →
  Calls P f vs.toArray w fun e w'=>∃ v c r h,e=.returned v∧K r h∧geV M r∧geH M h∧HGood ⟨P,w,F,0,[],0,hG⟩ h c w'∧RepV w' c r v
theorem RetN.of {P:Program} {f nt:Nat} {m:MC} {rs:List RV} {args:List PV} {K:PV→List (Key × Option HE)→Prop} (hmix:P.follows .mixedOrders=true) (hm:mfOf P f=some (m.erase,nt,rs)) (hn:args.length≤nt)
 (hx:∀ M w0 F0 hG,XC ⟨P,w0,F0,nt,[],M,hG⟩ m (St.init args) [] (retIn rs fun r h''=>∃ h',K r h'∧geV M r∧geH M h'∧LH h'' h')):RetN P f args K:=by
 obtain⟨fn,c0,hf,hc,hb,rfl,htm,hrs⟩:=mfOf_spec hm
 refine⟨hc,fun M w F vs hG hF hr=>calls_of_wp hf hb ?_⟩
 have hi:=init_good hG hF hr hn
 refine wp_mono (exec_sound (E:=⟨P,w,F,fn.ntmps,[],M,hG⟩) hmix c0 m (St.init args) _ w _ htm ⟨dctx F,hi.defers,hi.size,hi.slot,hi.heap,hi.fresh,hi.apart,hi.fz,hi.le,hi.bnd,hi.below,hi.ghost⟩ (hx M w F hG)) ?_
 rintro e a' w' ⟨ex,st',rfl,hq,c',hg'⟩
 have key:∀ q:resOk st' rs∧∃ h',K (resAll st' rs) h'∧geV M (resAll st' rs)∧geH M h'∧LH st'.h h',a'.defers=[]∧∃ v,(results fn a'.tmps).run P w'=.ok v w'∧∃ v' c r h,Ending.returned v=.returned v'∧K r h∧geV M r∧geH M h∧HGood ⟨P,w,F,0,[],0,hG⟩ h c w'∧RepV w' c r v':=by
  rintro⟨q1,h',q2,q3,q4,q5⟩
  obtain⟨v,k1,k2⟩:=resAll_run hg' hrs q1
  have hgl:=Good.leH (s:=st'.s) (h:=st'.h) (h':=h') hg' fun k=>subH_hk k q5
  exact⟨hg'.defers,v,k1,v,c',_,h',rfl,q2,q3,q4,⟨hgl.heap,hgl.fresh,hgl.apart,hgl.fz,hgl.le,hgl.bnd,hgl.below⟩,k2⟩
 cases ex with
 | normal=>exact key hq
 | ret=>exact key hq
 | exit id=>exact hq.elim
 | goto l=>exact hq.elim
theorem key_bnd:∀ h:List (Key × Option HE),∃ L,∀ p∈h,p.1.2<L
 | []=>⟨0,by simp⟩
 | p::h=>by
   obtain⟨L,hL⟩:=key_bnd h
   refine⟨max (p.1.2+1) L,fun x hx=>?_⟩
   rcases List.mem_cons.1 hx with rfl|hx
   ·exact Nat.lt_of_lt_of_le (Nat.lt_succ_self _) (Nat.le_max_left _ _)
   ·exact Nat.lt_of_lt_of_le (hL x hx) (Nat.le_max_right _ _)
theorem XCall.retN {E:Env} {f:FuncId} {args:List PV} {d:Option Nat} {ms:List MOp} {st:St} {ks:List KF} {Q:Ex→St→Prop} {K:PV→List (Key × Option HE)→Prop} (hkf:kfL args=true) (hr:RetN E.P f args K)
 (h:∀ M r h',E.V≤M→(∀ p∈st.h,p.1.2<M)→K r h'→geV M r→geH M h'→XR E ms ⟨putS d r st.s,st.h++h'⟩ ks Q):XCall E f args d ms st ks Q:=by
 refine .inr ⟨hr.1,fun a c w vs hg hrep=>?_⟩
 obtain⟨N,hN⟩:=hg.bnd
 obtain⟨L,hL⟩:=key_bnd st.h
 have hh:=hg.hgood
 obtain⟨M,hMM⟩ : ∃ M,M=max (max N E.V) L:=⟨_,rfl⟩
 have hM:∀ k,c.U k→k.2<M:=fun k hk=>by have:=hN k hk; omega
 have hLM:∀ p∈st.h,p.1.2<M:=fun p hp=>by have:=hL p hp; omega
 refine Calls.mono (hr.2 M w c.Fz vs hh.gok (fun b hb=>(hh.fz b hb).1) (RepL.mono _ _ (Mono.refl _ _) (le_dctx fun _ h=>h) (kf_repL _ _ hkf hrep))) ?_
 rintro e w' ⟨v,c1,r,h1,he,hK,g1,g2,hg1,hv⟩
 have hb:Bel w.heap.size w w':=hg1.below
 have hF1:∀ b,c.Fz b→c1.Fz b:=hg1.le
 have hF2:∀ b,c1.Fz b→b<w'.heap.size∧(c.Fz b∨w.heap.size≤b):=hg1.fz
 obtain⟨o1,o2,o3⟩:=hh.grow hb hF1 hF2
 have hle:c.Le (joinC M c c1):=join_le hM hF1
 have hin:∀ k e,hk k h1=some e→(k,some e)∈h1:=fun k e hke=>by
  rcases hk_app k h1 [] with ⟨x,q1,q2,q3⟩|⟨q1,q2,q3⟩
  ·rw[q3] at hke
   rw[← hke]; exact q2
  ·rw[q3] at hke; cases hke
 have cases' : ∀ k e,hk k (st.h++h1)=some e→(M≤k.2∧hk k h1=some e∧(e.bx=true→geR M e.xs))∨(hk k st.h=some e∧k.2<M):=fun k e hke=>by
  rcases hk_app k st.h h1 with ⟨x,q1,q2,q3⟩|⟨q1,q2,q3⟩
  ·rw[hke] at q1
   subst q1
   exact .inr ⟨q3,hLM _ q2⟩
  ·rw[hke] at q1
   have q4:=g2 _ (hin k e q1.symm)
   exact .inl ⟨q4.1,q1.symm,q4.2 e rfl⟩
 refine⟨v,he,⟨putS d r st.s,st.h++h1⟩,joinC M c c1,h M r h1 (by omega) hLM hK g1 g2,?_⟩
 refine hg.put (r:=r) (by cases d<;>rfl) ⟨fun k e hke=>?_,fun k e ad hke had=>?_,fun k k' e e' ad ad' hke hke' had had' hne=>?_,fun b hb'=>?_,fun b hb'=>hF1 b (hh.le b hb'),?_,hh.below.trans (hb.mono hh.below.size)⟩ (ge_rep r v g1 hv) hle o2
 ·rcases cases' k e hke with ⟨q1,q2,q3⟩|⟨q1,q2⟩
  ·exact ge_hrep q1 q3 (hg1.heap k e q2)
  ·refine (hh.heap k e q1).mono o2 hle (fun ad had=>⟨fun hf=>?_,hF1 _⟩) (fun ad had=>hb.block _ (hh.fresh k e ad q1 had).2)
   rcases (hF2 _ hf).2 with h3|h3
   ·exact h3
   ·have:=(hh.fresh k e ad q1 had).2
    omega
 ·rcases cases' k e hke with ⟨q1,q2,q3⟩|⟨q1,q2⟩
  ·rw[(join_at q1).1] at had
   have:=hg1.fresh k e ad q2 had
   exact⟨Nat.le_trans hh.below.size this.1,this.2⟩
  ·rw[show (joinC M c c1).β k=c.β k from if_pos q2] at had
   have:=hh.fresh k e ad q1 had
   exact⟨this.1,Nat.lt_of_lt_of_le this.2 hb.size⟩
 ·have key:∀ k e ad,hk k (st.h++h1)=some e→(joinC M c c1).β k=some ad→(hk k h1=some e∧c1.β k=some ad∧w.heap.size≤ad.block)∨(hk k st.h=some e∧c.β k=some ad∧ad.block<w.heap.size):=fun k e ad hke had=>by
     rcases cases' k e hke with ⟨q1,q2,q3⟩|⟨q1,q2⟩
     ·rw[(join_at q1).1] at had
      exact .inl ⟨q2,had,(hg1.fresh k e ad q2 had).1⟩
     ·rw[show (joinC M c c1).β k=c.β k from if_pos q2] at had
      exact .inr ⟨q1,had,(hh.fresh k e ad q1 had).2⟩
  rcases key k e ad hke had with ⟨a1,a2,a3⟩|⟨a1,a2,a3⟩<;>rcases key k' e' ad' hke' had' with ⟨b1,b2,b3⟩|⟨b1,b2,b3⟩
  ·exact hg1.apart k k' e e' ad ad' a1 b1 a2 b2 hne
  ·omega
  ·omega
  ·exact hh.apart k k' e e' ad ad' a1 b1 a2 b2 hne
 ·refine⟨(hF2 b hb').1,?_⟩
  rcases (hF2 b hb').2 with h3|h3
  ·exact (hh.fz b h3).2
  ·exact .inr (Nat.le_trans hh.below.size h3)
 ·obtain⟨N1,hN1⟩:=hg1.bnd
  refine⟨max M N1,fun k hk=>?_⟩
  rcases hk with hk|⟨_,hk⟩
  ·exact Nat.lt_of_lt_of_le (hM k hk) (Nat.le_max_left _ _)
  ·exact Nat.lt_of_lt_of_le (hN1 k hk) (Nat.le_max_right _ _)
def LSF (fzk:List Key) (st S:St):Prop:=LS ⟨st.s,freezeAll (fun k=>hk k st.h) fzk++st.h⟩ S
theorem LSF_eq {fzk:List Key} {s:List (Nat × PV)} {h:List (Key × Option HE)} {S:St}:LSF fzk ⟨s,h⟩ S=LS ⟨s,freezeAll (fun k=>hk k h) fzk++h⟩ S:=rfl
def LNV (E:Env) {γ:Type} (n:Nat) (S:Nat→γ→St) (J:Nat→γ→Prop) (i:Nat) (ks:List KF) (Q:Ex→St→Prop):Ex→St→Prop
 | .normal,st'=>i<n∧∃ g fzk,J (i+1) g∧LSF fzk st' (S (i+1) g)
 | e,st'=>XE E e st' ks Q
section
variable {E:Env} {body:MC} {st st' : St} {ks:List KF} {Q:Ex→St→Prop} {γ:Type} {n i:Nat} {S' : Nat→γ→St} {J' : Nat→γ→Prop}
theorem LNV_normal:LNV E n S' J' i ks Q .normal st'=(i<n∧∃ g fzk,J' (i+1) g∧LSF fzk st' (S' (i+1) g)):=propext Iff.rfl
theorem LNV_exit {id:Nat}:LNV E n S' J' i ks Q (.exit id) st'=XE E (.exit id) st' ks Q:=propext Iff.rfl
theorem LNV_ret:LNV E n S' J' i ks Q .ret st'=XE E .ret st' ks Q:=propext Iff.rfl
theorem LNV_goto {id:Nat}:LNV E n S' J' i ks Q (.goto id) st'=XE E (.goto id) st' ks Q:=propext Iff.rfl
theorem XLoop.cntV (hmix:E.P.follows .mixedOrders=true) (n:Nat) (S' : Nat→γ→St) (J' : Nat→γ→Prop) (g0:γ) (h0:J' 0 g0) (hst:LS st (S' 0 g0))
 (hr:∀ i g N,i≤n→J' i g→E.V≤N→(∀ k e,hk k (S' i g).h=some e→k.2<N)→XC ⟨E.P,E.w0,E.F0,E.nt,E.G,N,E.glob⟩ body (S' i g) [] (LNV E n S' J' i ks Q)):XLoop E (.loop body) st ks Q:=by
 intro c hm a w hrel
 obtain⟨x,rfl,hm1⟩:=toMC_loop hm
 refine wp_loop_ghost (fun m a w=>∃ i g,i≤n∧J' i g∧n-i=m∧Rel E (S' i g) a w) n ⟨0,g0,Nat.zero_le _,h0,rfl,hst.le a w hrel⟩ ?_
 rintro m a w ⟨i,g,hi,hJ,rfl,c,hg⟩
 obtain⟨N,hN⟩:=hg.bnd
 refine wp_mono (exec_sound (E:=⟨E.P,E.w0,E.F0,E.nt,E.G,max N E.V,E.glob⟩) hmix x body (S' i g) a w _ hm1 ⟨c,hg.defers,hg.size,hg.slot,hg.heap,hg.fresh,hg.apart,hg.fz,hg.le,hg.bnd,hg.below,hg.ghost⟩ (hr i g (max N E.V) hi hJ (Nat.le_max_right _ _) fun k e hk=>Nat.lt_of_lt_of_le (hN k (hg.heap k e hk).1) (Nat.le_max_left _ _))) ?_
 rintro e a' w' ⟨ex,st',rfl,hq,c',hg'⟩
 have hr' : Rel E st' a' w':=⟨c',hg'.defers,hg'.size,hg'.slot,hg'.heap,hg'.fresh,hg'.apart,hg'.fz,hg'.le,hg'.bnd,hg'.below,hg'.ghost⟩
 cases ex with
 | normal =>
   obtain⟨hlt,g',fzk,h1,h3⟩:=hq
   exact⟨n-(i+1),by omega,i+1,g',hlt,h1,rfl,h3.le a' w' (Le.freeze fzk a' w' hr')⟩
 | exit id=>exact⟨.exit id,st',rfl,hq,hr'⟩
 | goto l=>exact⟨.goto l,st',rfl,hq,hr'⟩
 | ret=>exact⟨.ret,st',rfl,hq,hr'⟩
end
attribute [simp] LNV_normal LNV_exit LNV_ret LNV_goto
theorem leE_same (hl:Key→Option HE) (x:Option HE):leE hl x x:=by
 cases x with
 | none=>trivial
 | some e=>exact⟨rfl,rfl,.inl rfl,leR_refl hl _⟩
theorem subH_of {hl:Key→Option HE} {h:List (Key × Option HE)}:∀ {h' : List (Key × Option HE)},(∀ p∈h',leE hl (hk p.1 h) p.2)→subH hl h' h
 | [],_=>trivial
 | (k,e)::l,hp=>⟨hp (k,e) (by simp),subH_of fun p hp'=>hp p (by simp[hp'])⟩
theorem subH_app {hl:Key→Option HE} {h:List (Key × Option HE)}:∀ {h1 h2:List (Key × Option HE)},subH hl (h1++h2) h=(subH hl h1 h∧subH hl h2 h)
 | [],h2=>by simp[subH]
 | (k,e)::l,h2=>by
   simp only[List.cons_append,subH,subH_app,and_assoc]
end Go.Proofs.YtfilonnphgnplaaGreatDoor.Pv
set_option maxRecDepth 100000
namespace Go.Proofs.YtfilonnphgnplaaGreatDoor.Pv
open Go Go.Tidy
def twF (o:Ob) (u:Nat):List PV:=twO o (.vec 1 false (o.names.map encStr)) (.own (69,u) 9 0 o.fields.length false) (.vec 1 false (o.must.map encBool))
def rowsN:List Ob→List Nat→List (List PV)
 | [],_=>[]
 | o::os,[]=>encObj o::os.map encObj
 | o::os,u::us=>twF o u::rowsN os us
def tlN:List Ob→List Nat→List (Key × Option HE)
 | o::os,u::us=>((69,u),some ⟨9,o.fields.map encTy,false,false⟩)::tlN os us
 | _,_=>[]
theorem rowsN_nil (os:List Ob):rowsN os []=os.map encObj:=by cases os<;>rfl
theorem tlN_nil (os:List Ob):tlN os []=[]:=by cases os<;>rfl
theorem rowsN_len:∀ (os:List Ob) (us:List Nat),(rowsN os us).length=os.length
 | [],_=>rfl
 | o::os,[]=>by simp[rowsN]
 | o::os,u::us=>by simp[rowsN,rowsN_len os us]
theorem rowsN_at:∀ {os:List Ob} {us:List Nat} (h:us.length<os.length),(rowsN os us)[us.length]? = some (cO os[us.length])
 | o::os,[],h=>by simp[rowsN]
 | o::os,u::us,h=>by
   have:=rowsN_at (os:=os) (us:=us) (by simpa using h)
   simpa[rowsN] using this
theorem rowsN_set:∀ {os:List Ob} {us:List Nat} (h:us.length<os.length) (u:Nat),(rowsN os us).set us.length (twF os[us.length] u)=rowsN os (us++[u])
 | o::os,[],h,u=>by simp[rowsN,rowsN_nil]
 | o::os,w::us,h,u=>by
   have:=rowsN_set (os:=os) (us:=us) (by simpa using h) u
   simpa[rowsN] using this
theorem tlN_app:∀ {os:List Ob} {us:List Nat} (h:us.length<os.length) (u:Nat),tlN os (us++[u])=tlN os us++[((69,u),some ⟨9,os[us.length].fields.map encTy,false,false⟩)]
 | o::os,[],h,u=>by simp[tlN,tlN_nil]
 | o::os,w::us,h,u=>by
   have:=tlN_app (os:=os) (us:=us) (by simpa using h) u
   simpa[tlN] using this
theorem tlN_mem:∀ {os:List Ob} {us:List Nat} {p:Key × Option HE},p∈tlN os us→∃ u∈us,p.1=(69,u)
 | [],us,p,h=>by simp[tlN] at h
 | o::os,[],p,h=>by simp[tlN] at h
 | o::os,u::us,p,h=>by
   rcases List.mem_cons.1 h with rfl|h
   ·exact⟨u,by simp,rfl⟩
   ·obtain⟨w,hw,e⟩:=tlN_mem h
    exact⟨w,by simp[hw],e⟩
theorem tlN_key:∀ {os:List Ob} {us:List Nat},us.length≤os.length→∀ u∈us,∃ e,((69,u),some e)∈tlN os us
 | os,[],_,u,h=>by cases h
 | [],w::us,hl,u,h=>by simp at hl
 | o::os,w::us,hl,u,h=>by
   rcases List.mem_cons.1 h with rfl|h
   ·exact⟨_,List.mem_cons_self⟩
   ·obtain⟨e,he⟩:=tlN_key (os:=os) (us:=us) (by simpa using hl) u h
    exact⟨e,List.mem_cons_of_mem _ he⟩
theorem hk_tlN:∀ {os:List Ob} {us:List Nat},us.Nodup→∀ p∈tlN os us,hk p.1 (tlN os us)=p.2
 | [],us,hn,p,hp=>by simp[tlN] at hp
 | o::os,[],hn,p,hp=>by simp[tlN] at hp
 | o::os,u::us,hn,p,hp=>by
   have hn':=List.nodup_cons.1 hn
   rw[show tlN (o::os) (u::us)=((69,u),some ⟨9,o.fields.map encTy,false,false⟩)::tlN os us from rfl] at hp ⊢
   rcases List.mem_cons.1 hp with rfl|hp
   ·rw[hk_cons,if_pos rfl]
   ·obtain⟨w,hw,e⟩:=tlN_mem hp
    rw[hk_cons,if_neg (by rw[e]; intro q; cases q; exact hn'.1 hw)]
    exact hk_tlN hn'.2 p hp
theorem leR_set2 {hl:Key→Option HE}:∀ {l:List (List PV)} {k:Nat} {a b:List PV},leL hl a b→leR hl (l.set k a) (l.set k b)
 | [],_,_,_,_=>by simp[leR]
 | x::l,0,a,b,h=>⟨h,leR_refl hl l⟩
 | x::l,k+1,a,b,h=>⟨leL_refl hl x,leR_set2 h⟩
theorem tlN_sub {os:List Ob} {us:List Nat} (hn:us.Nodup) (front:List (Key × Option HE)) (hl:Key→Option HE) (hf:∀ q∈front,q.1.1=69→q.1.2 ∉ us):subH hl (tlN os us) (front++tlN os us):=by
 refine subH_of fun p hp=>?_
 obtain⟨w,hw,e⟩:=tlN_mem hp
 have h1:hk p.1 (front++tlN os us)=hk p.1 (tlN os us):=by
  rcases hk_app p.1 front (tlN os us) with ⟨y,q1,q2,q3⟩|⟨q1,_,_⟩
  ·have:=hf _ q2 (by rw[e])
   rw[e] at this
   exact absurd hw this
  ·exact q1
 rw[h1,hk_tlN hn p hp]
 exact leE_same _ _
theorem rowsN_ge {V:Nat}:∀ {os:List Ob} {us:List Nat},(∀ x∈us,V≤x)→∀ r∈rowsN os us,geL V r
 | [],_,_,r,hr=>by simp[rowsN] at hr
 | o::os,[],_,r,hr=>by
   rw[rowsN_nil] at hr
   obtain⟨x,_,rfl⟩:=List.mem_map.1 hr
   simp[geL,geV]
 | o::os,u::us,h,r,hr=>by
   rcases List.mem_cons.1 hr with rfl|hr
   ·simp[twF,twO,geL,geV,h u]
   ·exact rowsN_ge (fun x hx=>h x (by simp[hx])) r hr
theorem tlN_bx:∀ {os:List Ob} {us:List Nat} {p:Key × Option HE} {e:HE},p∈tlN os us→p.2=some e→e.bx=false
 | [],us,p,e,h,_=>by simp[tlN] at h
 | o::os,[],p,e,h,_=>by simp[tlN] at h
 | o::os,u::us,p,e,h,he=>by
   rcases List.mem_cons.1 h with rfl|h
   ·cases he; rfl
   ·exact tlN_bx h he
inductive OkT (us:List Nat) (tl:List (Key × Option HE)):List (Key × Option HE)→Prop where
 | nil:OkT us tl tl
 | cons {q:Key × Option HE} {h:List (Key × Option HE)}:(q.1.1=69→q.1.2 ∉ us)→OkT us tl h→OkT us tl (q::h)
theorem OkT.front {us:List Nat} {tl h:List (Key × Option HE)} (k:OkT us tl h):∃ f,h=f++tl∧∀ q∈f,q.1.1=69→q.1.2 ∉ us:=by
 induction k with
 | nil=>exact⟨[],rfl,by simp⟩
 | cons h1 _ ih =>
   obtain⟨f,rfl,hf⟩:=ih
   refine⟨_::f,rfl,fun q hq=>?_⟩
   rcases List.mem_cons.1 hq with rfl|hq
   ·exact h1
   ·exact hf q hq
theorem OkT.sub {os:List Ob} {us:List Nat} {h:List (Key × Option HE)} {hl:Key→Option HE} (hn:us.Nodup) (k:OkT us (tlN os us) h):subH hl (tlN os us) h:=by
 obtain⟨f,rfl,hf⟩:=k.front
 exact tlN_sub hn f hl hf
def twK (t:Ty) (r:PV) (h:List (Key × Option HE)):Prop:=∃ v us,us.length=t.objects.length∧us.Nodup∧r=.agg (twRow t (.own (1017,v) 11 0 t.arrays.length false) (.own (1019,v) 12 0 t.objects.length false)) ∧
 h=((1017,v),some ⟨11,t.arrays.map encArr,false,false⟩)::((1019,v),some ⟨12,rowsN t.objects us,false,true⟩)::tlN t.objects us
set_option maxHeartbeats 8000000 in
theorem twin_own (t:Ty) (h1:t.nums.length≤34359738368) (h2:t.texts.length≤34359738368) (h3:t.arrays.length≤34359738368) (h4:t.objects.length≤34359738368)
 (hA:∀ a∈t.arrays,Ret prog M.F_shape_Twin [.agg (cT a.item)] (.agg (cT a.item)))
 (hO:∀ o∈t.objects,o.names.length≤34359738368∧o.fields.length≤34359738368∧o.must.length≤34359738368∧(∀ f∈o.fields,Ret prog M.F_shape_Twin [.agg (cT f)] (.agg (cT f)))∧Ret prog M.F_shape_Twin [.agg (cT o.rest)] (.agg (cT o.rest))) :
 RetN prog M.F_shape_Twin [.agg (cT t)] (twK t):=by
 refine RetN.of hmix h_shape_Twin (by simp) fun V w0 F0 hG=>?_
 have c1:=c_slices_Clone_Span false (t.nums.map encSpan) (by simp; omega)
 have c2:=c_slices_Clone_string false (t.texts.map encStr) (by simp; omega)
 have c3:=c_slices_Clone_Arr false (t.arrays.map encArr) (by simp; omega)
 have c4:=c_slices_Clone_Obj false (t.objects.map encObj) (by simp; omega)
 simp
 intro v1 hv1 v2 hv2 v3 hv3
 refine XDCall.retO c1 ?_
 simp
 refine XDCall.retO c2 ?_
 simp
 intro v4 hv4
 refine XDCall.retO c3 ?_
 simp
 refine XDCall.retO c4 ?_
 simp
 refine XLoop.anew [(8000001,11,1007),(9000001,12,1008)] rfl (fun v=>⟨[(26,.int .i64 0),(25,.int .i64 t.arrays.length),(2,.ptr (2,v2) 9 0 0),(1,.ptr (1,v1) 9 0 0)],[((1,v1),some ⟨9,[twRow t (.own (1007,v) 11 0 t.arrays.length false) (.own (1008,v) 12 0 t.objects.length false)],false,true⟩),((1007,v),some ⟨11,t.arrays.map encArr,false,false⟩),((1008,v),some ⟨12,t.objects.map encObj,false,false⟩),((2,v2),some ⟨9,[M.z1],false,true⟩)]⟩) (fun v=>by simp[twRow,leR_refl]) fun v hv=>?_
 refine XLoop.cnt hmix t.arrays.length (fun k (_:Unit)=>⟨[(26,.int .i64 k),(25,.int .i64 t.arrays.length),(2,.ptr (2,v2) 9 0 0),(1,.ptr (1,v1) 9 0 0)],[((1,v1),some ⟨9,[twRow t (.own (1007,v) 11 0 t.arrays.length false) (.own (1008,v) 12 0 t.objects.length false)],false,true⟩),((1007,v),some ⟨11,t.arrays.map encArr,false,false⟩),((1008,v),some ⟨12,t.objects.map encObj,false,false⟩),((2,v2),some ⟨9,[M.z1],false,true⟩)]⟩) (fun _ _=>True) () trivial (by simp[twRow,leR_refl]) fun k _ hk _=>?_
 have hw:=wrap64 (n:=(k:Int)+1) (by omega) (by omega)
 by_cases g1:k<t.arrays.length
 ·have cA:=hA _ (List.getElem_mem g1)
  have hs:=set_arrs g1
  simp[g1,twRow]
  intro v5 hv5
  refine XDCall.ret (by simpa using cA) ?_
  simp[g1,hw,hs,leR_refl]
 simp[g1,twRow]
 refine XLoop.anew [(8000001,11,1017),(9000001,12,1019)] rfl (fun v=>⟨[(45,.int .i64 0),(44,.int .i64 t.objects.length),(2,.ptr (2,v2) 9 0 0),(1,.ptr (1,v1) 9 0 0)],[((1,v1),some ⟨9,[twRow t (.own (1017,v) 11 0 t.arrays.length false) (.own (1019,v) 12 0 t.objects.length false)],false,true⟩),((1017,v),some ⟨11,t.arrays.map encArr,false,false⟩),((1019,v),some ⟨12,t.objects.map encObj,false,true⟩),((2,v2),some ⟨9,[M.z1],false,true⟩)]⟩) (fun v=>by simp[twRow,leR_refl]) fun u hu=>?_
 obtain⟨J,hJ⟩ : ∃ J:Nat→List Nat→Prop,J=fun k us=>us.length=k∧us.Nodup∧∀ x∈us,V≤x:=⟨_,rfl⟩
 refine XLoop.cntV hmix t.objects.length (fun k us=>⟨[(45,.int .i64 k),(44,.int .i64 t.objects.length),(2,.ptr (2,v2) 9 0 0),(1,.ptr (1,v1) 9 0 0)],((1,v1),some ⟨9,[twRow t (.own (1017,u) 11 0 t.arrays.length false) (.own (1019,u) 12 0 t.objects.length false)],false,true⟩)::((1017,u),some ⟨11,t.arrays.map encArr,false,false⟩)::((1019,u),some ⟨12,rowsN t.objects us,false,true⟩)::((2,v2),some ⟨9,[M.z1],false,true⟩)::tlN t.objects us⟩) J [] (by rw[hJ]; simp) (by simp[twRow,rowsN_nil,tlN_nil,leR_refl]) fun k us N hk hj hVN hN=>?_
 have hVN:V≤N:=hVN
 obtain⟨j1,j2,j3⟩ : us.length=k∧us.Nodup∧∀ x∈us,V≤x:=by rw[hJ] at hj; exact hj
 have hw:=wrap64 (n:=(k:Int)+1) (by omega) (by omega)
 by_cases g2:k<t.objects.length
 ·obtain⟨o1,o2,o3,o4,o5⟩:=hO _ (List.getElem_mem g2)
  have d1:=c_slices_Clone_string false (t.objects[k].names.map encStr) (by simp; omega)
  have d2:=c_slices_Clone_bool false (t.objects[k].must.map encBool) (by simp; omega)
  have d3:=c_slices_Clone_Type false (t.objects[k].fields.map encTy) (by simp; omega)
  have hX:(rowsN t.objects us)[k]? = some (cO t.objects[k]):=by subst j1; exact rowsN_at g2
  have hXl:=rowsN_len t.objects us
  have hset:=fun x=>rowsN_set (os:=t.objects) (us:=us) (by omega) x
  have htl:=fun x=>tlN_app (os:=t.objects) (us:=us) (by omega) x
  have hkt:=hk_tlN (os:=t.objects) j2
  have hfr:∀ x∈us,x<N:=fun x hx=>by
   obtain⟨e,he⟩:=tlN_key (os:=t.objects) (us:=us) (by omega) x hx
   have:=hkt _ he
   refine hN (69,x) e ?_
   simpa[hk] using this
  clear hN
  generalize ho:t.objects[k]=o at *
  have hXk:(rowsN t.objects us)[k]'(by omega)=cO o:=(List.getElem?_eq_some_iff.1 hX).2
  simp[g2,twRow,ho,hXl,hXk]
  intro v5 hv5
  have hnv:v5 ∉ us:=fun hc=>by have:=hfr _ hc; omega
  refine XDCall.retO d1 ?_
  simp[g2,ho,hXl,hXk]
  refine XDCall.retO d2 ?_
  simp[g2,ho,hXl,hXk]
  refine XDCall.retO d3 ?_
  simp[g2,ho,hXl,hXk]
  refine XLoop.cnt hmix o.fields.length (fun j (_:Unit)=>⟨[(81,.int .i64 j),(80,.int .i64 o.fields.length),(5,.ptr (1019,u) 12 k 0),(45,.int .i64 k),(44,.int .i64 t.objects.length),(2,.ptr (2,v2) 9 0 0),(1,.ptr (1,v1) 9 0 0)],
   ((1019,u),some ⟨12,(rowsN t.objects us).set k (twO o (.own (59,v5) 1 0 o.names.length false) (.own (69,v5) 9 0 o.fields.length false) (.own (64,v5) 1 0 o.must.length false)),false,true⟩)::((69,v5),some ⟨9,o.fields.map encTy,false,false⟩)::((64,v5),some ⟨1,o.must.map encBool,false,false⟩)::((59,v5),some ⟨1,o.names.map encStr,false,false⟩)::((1,v1),some ⟨9,[twRow t (.own (1017,u) 11 0 t.arrays.length false) (.own (1019,u) 12 0 t.objects.length false)],false,true⟩)::((1017,u),some ⟨11,t.arrays.map encArr,false,false⟩)::((2,v2),some ⟨9,[M.z1],false,true⟩)::tlN t.objects us⟩) (fun _ _=>True) () trivial (by
     simp[twRow,twO,leR_refl]
     refine OkT.sub j2 ?_
     repeat (first|exact OkT.nil|refine OkT.cons (by simp[*]) ?_)) fun j _ hj _=>?_
  have hwj:=wrap64 (n:=(j:Int)+1) (by omega) (by omega)
  by_cases g3:j<o.fields.length
  ·have cF:=o4 _ (List.getElem_mem g3)
   have hsf:=set_tys g3
   simp[g2,g3,twRow,twO,hXl]
   intro v6 hv6
   refine XDCall.ret (by simpa using cF) ?_
   simp[g2,g3,hwj,hsf,leR_refl,hXl]
   refine OkT.sub j2 ?_
   repeat (first|exact OkT.nil|refine OkT.cons (by simp[*]) ?_)
  ·simp[g2,g3,twRow,twO,hXl]
   refine XCall.ret (by simpa using o5) ?_
   simp[g2,hw,hXl]
   refine⟨us++[v5],?_,[(59,v5),(64,v5)],?_⟩
   ·rw[hJ]
    refine⟨by simp[j1],List.nodup_append.2 ⟨j2,by simp,fun a ha b hb=>?_⟩,fun x hx=>?_⟩
    ·have:=hfr a ha
     rw[List.mem_singleton.1 hb]
     omega
    ·rcases List.mem_append.1 hx with hx|hx
     ·exact j3 x hx
     ·rw[List.mem_singleton.1 hx]
      omega
   ·rw[LSF_eq]
    rw[htl,← hset]
    subst j1
    simp only[ho]
    simp[freezeAll,twF,twO,leR_refl,subH_app]
    refine⟨leR_set2 (by simp),?_⟩
    refine OkT.sub j2 ?_
    repeat (first|exact OkT.nil|refine OkT.cons (by simp[*]) ?_)
 ·have hu:V≤u:=hu
  have hkl:us.length=t.objects.length:=by omega
  simp[g2,twRow]
  refine⟨((1017,u),some ⟨11,t.arrays.map encArr,false,false⟩)::((1019,u),some ⟨12,rowsN t.objects us,false,true⟩)::tlN t.objects us,⟨u,us,hkl,j2,rfl,rfl⟩,?_,?_,?_⟩
  ·simp[geV,geL,hu]
  ·intro p hp
   rcases List.mem_cons.1 hp with rfl|hp
   ·exact⟨hu,fun e he hb=>by cases he; cases hb⟩
   rcases List.mem_cons.1 hp with rfl|hp
   ·exact⟨hu,fun e he hb=>by cases he; exact geR_of (rowsN_ge j3)⟩
   ·obtain⟨w,hw,e⟩:=tlN_mem hp
    exact⟨by rw[e]; exact j3 w hw,fun e he hb=>by rw[tlN_bx hp he] at hb; cases hb⟩
  ·rw[LH_eq]
   simp[leR_refl]
   refine OkT.sub j2 ?_
   repeat (first|exact OkT.nil|refine OkT.cons (by simp[*]) ?_)
end Go.Proofs.YtfilonnphgnplaaGreatDoor.Pv
namespace Go.Tidy
open Go
def cutAr (q:Nat) (a:Arr):Arr:=.mk (cutT q a.item) a.min a.max
def cutFi (q:Nat) (o:Ob):Ob:=.mk o.names (o.fields.map (cutT q)) o.must o.rest
def cutOb (q:Nat) (o:Ob):Ob:=.mk o.names (o.fields.map (cutT q)) o.must (cutT q o.rest)
theorem cutAs_map (q:Nat):∀ l:List Arr,cutAs q l=l.map (cutAr q)
 | []=>by simp[cutAs]
 | .mk t lo hi::l=>by simp[cutAs,cutAs_map q l,cutAr]
theorem cutTs_map (q:Nat):∀ l:List Ty,cutTs q l=l.map (cutT q)
 | []=>by simp[cutTs]
 | t::l=>by simp[cutTs,cutTs_map q l]
theorem cutOs_map (q:Nat):∀ l:List Ob,cutOs q l=l.map (cutOb q)
 | []=>by simp[cutOs]
 | .mk ns fs ms r::l=>by simp[cutOs,cutOs_map q l,cutOb,cutTs_map]
theorem cutT_def (h:Nat) (t:Ty):cutT h t=if t.all||(h == 0&&(!t.arrays.isEmpty||!t.objects.isEmpty)) then tEvery else .mk t.all t.null t.fls t.tru t.nums t.any t.texts (t.arrays.map (cutAr (h-1))) (t.objects.map (cutOb (h-1))):=by
 obtain⟨a,b,c,d,ns,e,ts,az,os⟩:=t
 rw[cutT,cutAs_map,cutOs_map]; rfl
theorem cutT_zero (t:Ty):cutT 0 t=if t.all||!t.arrays.isEmpty||!t.objects.isEmpty then tEvery else .mk t.all t.null t.fls t.tru t.nums t.any t.texts (t.arrays.map (cutAr 0)) (t.objects.map (cutOb 0)):=by
 rw[cutT_def]
 simp[Bool.or_assoc]
theorem cutT_succ (h:Nat) (t:Ty):cutT (h+1) t=if t.all then tEvery else .mk t.all t.null t.fls t.tru t.nums t.any t.texts (t.arrays.map (cutAr h)) (t.objects.map (cutOb h)):=by
 rw[cutT_def]
 simp
theorem cut_flat {t:Ty} (h:¬ (t.all||!t.arrays.isEmpty||!t.objects.isEmpty)=true):cutT 0 t=t∧t.all=false∧t.arrays=[]∧t.objects=[]:=by
 simp only[Bool.or_eq_true,not_or,Bool.not_eq_true,Bool.not_eq_false',List.isEmpty_iff] at h
 obtain⟨⟨h1,h2⟩,h3⟩:=h
 refine⟨?_,h1,h2,h3⟩
 rw[cutT_zero,h1,h2,h3]
 have:=Ty.eta t
 rw[h1,h2,h3] at this
 simpa using this
theorem never_cutT:∀ (h:Nat) (t:Ty),formedT t=true→never (cutT h t)=never t:=by
 intro h t ht
 cases h with
 | zero =>
   by_cases hc:(t.all||!t.arrays.isEmpty||!t.objects.isEmpty)=true
   ·rw[cutT_zero,if_pos hc]
    have:never t=false:=by
     rw[Bool.eq_false_iff,Ne,never_iff]
     rintro⟨k1,-,-,-,-,-,-,k8,k9⟩
     rw[k1,k8,k9] at hc
     simp at hc
    rw[this]; rfl
   ·rw[(cut_flat hc).1]
 | succ h =>
   rw[cutT_succ]
   split
   ·rename_i ha
    rw[all_every ht ha]
   ·rw[Bool.eq_iff_iff,never_iff,never_iff]
    simp
theorem formed_cutT:∀ (h:Nat) (t:Ty),formedT t=true→formedT (cutT h t)=true:=by
 intro h
 induction h with
 | zero =>
   intro t ht
   by_cases hc:(t.all||!t.arrays.isEmpty||!t.objects.isEmpty)=true
   ·rw[cutT_zero,if_pos hc]; exact every_formed
   ·rw[(cut_flat hc).1]; exact ht
 | succ h ih =>
   intro t ht
   obtain⟨f1,f2,f3,f4,f5,f6,f7,f8⟩:=formedT_spec ht
   rw[cutT_succ]
   split
   ·exact every_formed
   ·rename_i ha
    refine formedT_intro (fun k=>absurd k ha) f2 f3 f4 f5 (by simpa using f6) (fun a ha'=>?_) fun o ho=>?_
    ·obtain⟨x,hx,rfl⟩:=List.mem_map.1 ha'
     obtain⟨a1,a2,a3,a4,a5⟩:=formedA_spec (f7 x hx)
     exact formedA_intro a1 a2 a3 (ih _ a4) (by show never (cutT h x.item)=true↔_; rw[never_cutT h _ a4]; exact a5)
    ·obtain⟨x,hx,rfl⟩:=List.mem_map.1 ho
     obtain⟨o1,o2,o3,o4,o5,o6⟩:=formedO_spec (f8 x hx)
     refine formedO_intro (by simpa[cutOb] using o1) o2 o3 (ih _ o4) (fun f hf=>?_) fun p hp hm=>?_
     ·obtain⟨y,hy,rfl⟩:=List.mem_map.1 (show f∈x.fields.map (cutT h) from hf)
      exact ih y (o5 y hy)
     ·have hp:p∈(x.fields.map (cutT h)).zip x.must:=hp
      rw[List.zip_map_left] at hp
      obtain⟨z,hz,rfl⟩:=List.mem_map.1 hp
      show never (cutT h z.1)=false
      rw[never_cutT h _ (o5 _ (List.of_mem_zip hz).1)]
      exact o6 z hz hm
theorem height_cutT:∀ (h:Nat) (t:Ty),heightT (cutT h t)≤h:=by
 intro h
 induction h with
 | zero =>
   intro t
   by_cases hc:(t.all||!t.arrays.isEmpty||!t.objects.isEmpty)=true
   ·rw[cutT_zero,if_pos hc]; exact height_every 0
   ·obtain⟨h1,_,h2,h3⟩:=cut_flat hc
    rw[h1]; exact height_le_zero.2 ⟨h2,h3⟩
 | succ h ih =>
   intro t
   rw[cutT_succ]
   split
   ·exact height_every _
   ·rw[height_le_succ]
    refine⟨fun a ha=>?_,fun o ho=>?_⟩
    ·obtain⟨x,hx,rfl⟩:=List.mem_map.1 ha
     exact ih _
    ·obtain⟨x,hx,rfl⟩:=List.mem_map.1 ho
     refine⟨ih _,fun f hf=>?_⟩
     obtain⟨y,hy,rfl⟩:=List.mem_map.1 (show f∈x.fields.map (cutT h) from hf)
     exact ih _
theorem cut_same:∀ (h:Nat) (t:Ty),formedT t=true→heightT t≤h→cutT h t=t:=by
 intro h
 induction h with
 | zero =>
   intro t ht hh
   obtain⟨h1,h2⟩:=height_le_zero.1 hh
   by_cases ha:t.all=true
   ·rw[all_every ht ha]; rfl
   ·exact (cut_flat (by rw[h1,h2]; simpa using ha)).1
 | succ h ih =>
   intro t ht hh
   obtain⟨f1,f2,f3,f4,f5,f6,f7,f8⟩:=formedT_spec ht
   obtain⟨h1,h2⟩:=height_le_succ.1 hh
   rw[cutT_succ]
   split
   ·rename_i ha
    exact (all_every ht ha).symm
   ·have e1:t.arrays.map (cutAr h)=t.arrays:=(List.map_congr_left fun a ha=>by
       show Arr.mk (cutT h a.item) a.min a.max=a
       rw[ih _ (formedA_spec (f7 a ha)).2.2.2.1 (h1 a ha),Arr.eta]).trans (List.map_id _)
    have e2:t.objects.map (cutOb h)=t.objects:=(List.map_congr_left fun o ho=>by
     obtain⟨o1,o2,o3,o4,o5,o6⟩:=formedO_spec (f8 o ho)
     show Ob.mk o.names (o.fields.map (cutT h)) o.must (cutT h o.rest)=o
     have e3:o.fields.map (cutT h)=o.fields:=(List.map_congr_left fun f hf=>ih f (o5 f hf) ((h2 o ho).2 f hf)).trans (List.map_id _)
     rw[e3,ih _ o4 (h2 o ho).1,Ob.eta]).trans (List.map_id _)
    rw[e1,e2,Ty.eta]
theorem in_cutT:∀ (h:Nat) (t:Ty),formedT t=true→∀ v,formedV v=true→inT t v=true→inT (cutT h t) v=true:=by
 intro h
 induction h with
 | zero =>
   intro t ht v hv hi
   by_cases hc:(t.all||!t.arrays.isEmpty||!t.objects.isEmpty)=true
   ·rw[cutT_zero,if_pos hc]; exact in_every v
   ·rw[(cut_flat hc).1]; exact hi
 | succ h ih =>
   intro t ht v hv hi
   obtain⟨f1,f2,f3,f4,f5,f6,f7,f8⟩:=formedT_spec ht
   obtain⟨v1,v2,v3,v4,v5⟩:=formedV_spec hv
   rw[cutT_succ]
   split
   ·exact in_every v
   rename_i ha
   have ha:t.all=false:=by simpa using ha
   rw[inT_def,ha,Bool.false_or] at hi
   rw[inT_def]
   simp only[Ty.all_mk,Ty.null_mk,Ty.fls_mk,Ty.tru_mk,Ty.nums_mk,Ty.any_mk,Ty.texts_mk,Ty.arrays_mk,Ty.objects_mk,ha,Bool.false_or]
   by_cases k0:v.kind=0
   ·simpa only[if_pos k0] using hi
   by_cases k1:v.kind=1
   ·simpa only[if_neg k0,if_pos k1] using hi
   by_cases k2:v.kind=2
   ·simpa only[if_neg k0,if_neg k1,if_pos k2] using hi
   by_cases k3:v.kind=3
   ·simpa only[if_neg k0,if_neg k1,if_neg k2,if_pos k3] using hi
   by_cases k4:v.kind=4
   ·simpa only[if_neg k0,if_neg k1,if_neg k2,if_neg k3,if_pos k4] using hi
   by_cases k5:v.kind=5
   ·simp only[if_neg k0,if_neg k1,if_neg k2,if_neg k3,if_neg k4,if_pos k5] at hi ⊢
    cases hz:t.arrays with
    | nil=>rw[hz] at hi; cases hi
    | cons a az =>
      rw[hz] at hi
      obtain⟨c1,c2,c3⟩:=inA_iff.1 hi
      exact inA_iff.2 ⟨c1,c2,fun u hu=>ih _ (formedA_spec (f7 a (by rw[hz]; simp))).2.2.2.1 u (v5 u hu) (c3 u hu)⟩
   ·have k6:v.kind=6:=by omega
    simp only[if_neg k0,if_neg k1,if_neg k2,if_neg k3,if_neg k4,if_neg k5] at hi ⊢
    obtain⟨o,ho,hio⟩:=List.any_eq_true.1 hi
    refine List.any_eq_true.2 ⟨cutOb h o,List.mem_map.2 ⟨o,ho,rfl⟩,?_⟩
    have fo:=f8 o ho
    have fm:=formed_mapO (N:=cutT h) (formed_cutT h) (fun t ht=>never_cutT h t ht) fo
    show inO (.mk o.names (o.fields.map (cutT h)) o.must (cutT h o.rest)) v=true
    rw[inO_field fm hv k6]
    rw[inO_field fo hv k6] at hio
    intro n
    rw[fieldO_map n]
    exact⟨fun x hx=>ih _ (fieldO_formed fo n).1 x (v5 x (List.of_mem_zip (getV_zip hx)).2) ((hio n).1 x hx),(hio n).2⟩
end Go.Tidy

/- Part 18. -/
import Derived.Test.YtfilonnphgnplaaGreatDoorProg
import Derived.WalkKit
import Derived.Deep.LoopGhost
import Derived.Deep.RegionLaw
import Derived.Shelf.RegionOpenPlain
import Derived.Lib.Walk
import Derived.Sort.WalkB12
import Derived.Lib.SliceRun
import Derived.Deep.MidRow
import Derived.Test.YtfilonnphgnplaaGreatDoorA17
set_option linter.unusedSimpArgs false
set_option linter.unusedVariables false
namespace Go.Proofs.YtfilonnphgnplaaGreatDoor
open Go Go.RowKit Go.Shelf Go.Lib
def aFv (P:Program) (t:TypeId):Bool:=match P.info? t with
 | some i=>i.size == 12&&(match i.zero with|some z=>z.cells.size == 12&&z.cells.toList.all (·.oneCell')|none=>false)
 | none=>false
theorem aFt {P:Program} {t:TypeId} (h:aFv P t=true):∃ i z,P.info? t=some i∧i.size=12∧i.zero=some z∧z.cells.size=12∧∀ u∈z.cells.toList,u.oneCell'=true:=by
 unfold aFv at h
 split at h
 ·rename_i i hi
  simp only[Bool.and_eq_true,beq_iff_eq] at h
  obtain⟨h1,h2⟩:=h
  split at h2
  ·rename_i z hz
   simp only[Bool.and_eq_true,beq_iff_eq,List.all_eq_true] at h2
   exact⟨i,z,hi,h1,hz,h2.1,h2.2⟩
  ·cases h2
 ·cases h
theorem ayI {P:Program} (w:World) (t e ty:TypeId) (i:TypeInfo) (z:Value) (ht:P.underlying t=some (.slice e)) (hi:P.info? e=some i) (hz:i.zero=some z) (hs:z.cells.size=12) (h1:∀ u∈z.cells.toList,u.oneCell'=true) (b o c:Nat)
 (hc:∀ j,j<12→(w.cell? ⟨b,o+j,none⟩).isSome=true) (hf:∀ j,j<12→w.frozen? ⟨b,o+j,none⟩=false) :
 (Builtin.clear_ #[t] ty #[.slice (some ⟨b,o,none⟩) 1 c]).run P w=.ok (.tuple #[]) (w.setCells b o (Builtin.zeroCells z.cells 1).toList):=by
 have hzl:(Builtin.zeroCells z.cells 1).toList.length=12:=by simp[Builtin.zeroCells,hs]
 have hst:=run_storeCells_cells (P:=P) b o (Builtin.zeroCells z.cells 1).toList 0 w (by rw[hzl]; simpa using hc) (by rw[hzl]; simpa using hf) (by
  intro v hv
  simp only[Builtin.zeroCells,Array.toList_map,List.mem_map] at hv
  obtain⟨j,hj,rfl⟩:=hv
  have hj' : j<12:=by simpa[hs] using hj
  have:j % z.cells.size<z.cells.size:=Nat.mod_lt _ (by omega)
  rw[getElem!_pos z.cells _ this]
  exact h1 _ (by simp))
 simp only[Nat.add_zero] at hst
 simp[Builtin.clear_,run_underlying ht,zeroValue,typeInfo,hi,hz,hst]
theorem t28:Tryz.prog.underlying 28=some (.slice 57):=by kernel_rfl
theorem aNG:aFv Tryz.prog 57=true:=by kernel_rfl
theorem aNA:Tryz.prog.follows .mixedOrders=true:=by kernel_rfl
set_option maxHeartbeats 4000000 in
set_option maxRecDepth 1000000 in
theorem aHy (blk off cap n i j:Nat) (news:List Value) (w:World) (hj:j=i+1) (hi:i<n) (hcap:n≤cap) (hm:cap≤9223372036854775807) (hnl:news.length=(n-j)*12) (hn1:∀ u∈news,u.oneCell'=true)
 (hsrc:∀ (k:Nat) (u:Value),news[k]? = some u→w.cell? ⟨blk,off+j*12+k,none⟩=some u) (hroom:∀ k,k<n*12→(w.cell? ⟨blk,off+k,none⟩).isSome=true∧w.frozen? ⟨blk,off+k,none⟩=false) :
 Calls Tryz.prog 278 #[.slice (some ⟨blk,off,none⟩) n cap,.int .i64 i,.int .i64 j] w fun e w'=>e=.returned (.slice (some ⟨blk,off,none⟩) (i+(n-j)) cap)∧∃ zs,w'=(w.drew.setCells blk (off+i*12) news).setCells blk (off+(i+(n-j))*12) zs:=by
 have mixed:=aNA
 have hic:i≤cap:=by omega
 have hjc:j≤cap:=by omega
 have hne:¬ i=j:=by omega
 have hij:i≤j:=by omega
 have hjn:j≤n:=by omega
 obtain⟨i0,z0,hi0,hz1,hz2,hz3,hz4⟩:=aFt aNG
 have t28:=t28
 obtain⟨A,hA,hs⟩ : ∃ A:Addr,(if cap=j then some (⟨blk,off,none⟩ : Addr) else some ⟨blk,off+j*12,none⟩)=some A∧Hid (∀ t u,news[t]? = some u→w.drew.cell? (A.add t)=some u):=by
  by_cases h:cap=j
  ·refine⟨⟨blk,off,none⟩,by simp[h],fun t u hu=>?_⟩
   have h0:news.length=0:=by rw[hnl,show n-j=0 by omega]
   rw[List.length_eq_zero_iff.1 h0] at hu
   simp at hu
  ·refine⟨⟨blk,off+j*12,none⟩,by simp[h],fun t u hu=>?_⟩
   rw[Addr.add_lit]
   exact hsrc t u hu
 have s1:Hid (news.length=(n-j)*12):=hnl
 have s2:Hid (∀ u∈news,u.oneCell'=true):=hn1
 have s3:Hid (∀ t,t<news.length→(w.drew.cell? ⟨blk,off+i*12+t,none⟩).isSome=true∧w.drew.frozen? ⟨blk,off+i*12+t,none⟩=false):=fun t ht=>by
  rw[hnl] at ht
  have:=hroom (i*12+t) (by omega)
  rw[← Nat.add_assoc] at this
  exact this
 obtain⟨W1,hW1⟩ : ∃ W1,W1=w.drew.setCells blk (off+i*12) news:=⟨_,rfl⟩
 have hcells:∀ k,k<n*12→(W1.cell? ⟨blk,off+k,none⟩).isSome=true∧W1.frozen? ⟨blk,off+k,none⟩=false:=fun k hk=>by
  have h0:=hroom k hk
  rw[hW1]
  refine⟨World.isSome_setCells _ _ _ _ _ h0.1,?_⟩
  rw[World.frozen?_setCells]; exact h0.2
 have hone:n-(i+(n-j))=1:=by omega
 have hcl:∀ ty c,(Builtin.clear_ #[28] ty #[.slice (some ⟨blk,off+(i+(n-j))*12,none⟩) (n-(i+(n-j))) c]).run Tryz.prog W1=.ok (.tuple #[]) (W1.setCells blk (off+(i+(n-j))*12) (Builtin.zeroCells z0.cells 1).toList):=by
  rw[hone]
  exact fun ty c=>ayI W1 28 57 ty i0 z0 t28 hi0 hz2 hz3 hz4 _ _ _
   (fun k hk=>by have:=(hcells ((i+(n-j))*12+k) (by omega)).1; rwa [← Nat.add_assoc] at this)
   (fun k hk=>by have:=(hcells ((i+(n-j))*12+k) (by omega)).2; rwa [← Nat.add_assoc] at this)
 generalize (Builtin.zeroCells z0.cells 1).toList=zs at hcl
 have hW:Hid (W1=w.drew.setCells blk (off+i*12) news):=hW1
 have hle:i+(n-j)≤n:=by omega
 have hlt:i+(n-j)<cap:=by omega
 have hj' : Hid (j=i+1):=hj
 clear hW1 hnl hn1 hsrc hroom hcells hj hone hz2 hz3 hz4
 go_enter Tryz.func278,Tryz.ntmps278
 go_wp2_with fail
 go_region_law_o (refine step_append_room rfl (.tmp 22) (.tmp 25) 28 rfl 57 i0 12 t28 hi0 hz1 blk off i cap (by simp[Act.eval,Act.put]) A (n-j) (cap-j) news (by simp[Act.eval,Act.put]) s1.out hs.out s2.out (by omega) s3.out ?_; rw[← hW.out])
 go_wp2
 go_ret
 exact⟨rfl,zs,by rw[hW.out]⟩
end Go.Proofs.YtfilonnphgnplaaGreatDoor
namespace Go.Proofs.YtfilonnphgnplaaGreatDoor.Pv
open Go Go.Tidy Go.Maps Go.RowKit
theorem aJL (m:Nat):AnyZ.SortsIn Tryz.prog Tryz.amT Fence.wide m :=
 ⟨fun blk off cap ss W hH hblk hsz=>callsIn_wide.2 (AnyM.slices_Sort_string Tryz.ay4 blk off cap ss W hH hblk hsz),
  fun p cap W=>callsIn_wide.2 (AnyM.slices_Sort_string_none Tryz.ay4 p cap W)⟩
theorem aKS:ac9 prog 164 9 3 M.MQ M.xk:=by
 refine⟨by kernel_rfl,by kernel_rfl,⟨by kernel_rfl,by kernel_rfl,by kernel_rfl⟩,fun w b n es hown hlen=>?_⟩
 have hsz:Maps.size (.map es:DataW Unit)≤34359738368:=hlen
 have hbl:=hown.lt
 have cK:CallsIn Fence.wide 5 Tryz.prog 158 #[.map (some b)] w fun e w'=>e=.returned (.func (.func 225) #[] #[.pointer (some ⟨w.heap.size,0,none⟩)])∧w'=w.alloc (.cells #[.map (some b)] 164):=AnyZ.keys_in Tryz.aKP Fence.wide 5 trivial rfl (some b) w
 refine Calls.mono ((callsIn_wide (n:=5)).1 cK) ?_
 rintro e w' ⟨rfl,rfl⟩
 refine⟨_,rfl,(Below.refl _ w).alloc (Nat.le_refl _) _,?_⟩
 have hseq:SeqGives Fence.wide 2 Tryz.prog 225 #[.pointer (some ⟨w.heap.size,0,none⟩)] Go.Proofs.encStr (fun ss=>ss.Perm (strKeys (.map es:DataW Unit))) (Maps.size (.map es:DataW Unit)) (w.alloc (.cells #[.map (some b)] 164)) :=
  AnyZ.keys_gives (ρ:=Tryz.avs) { Tryz.aKP with } Fence.wide _ trivial rfl (by omega) w.heap.size b n (.map es) _ (by simp) (by simp) (by
   obtain⟨es',clock,hb,Ft,hs,hD⟩:=hown
   exact⟨es',clock,(Below.heap_alloc _ _ b hbl).trans hb,Ft,hs,hD⟩)
 have cS:=AnyZ.sorted_in Tryz.aK5 Fence.wide 5 trivial trivial trivial trivial rfl (by omega) (aJL _) (enters_of Tryz.func155 (by kernel_rfl) rfl) 225 #[.pointer (some ⟨w.heap.size,0,none⟩)] trivial (enters_of Tryz.func225 (by kernel_rfl) rfl) _ _ (by unfold maxLen; omega) (by omega) _ hseq
 change CallsIn _ _ Tryz.prog 157 _ _ _ at cS
 refine Calls.mono ((callsIn_wide (n:=5)).1 cS) ?_
 rintro e w' ⟨v,ss,rfl,hS,hrow,hnil,hb⟩
 exact⟨v,ss,rfl,hS,hrow,hb⟩
theorem aNk:Bf:=⟨⟨9,3,aKS⟩,⟨by kernel_rfl,fun blk off cap n i j news w a b c d e f g h=>aHy blk off cap n i j news w a b c d e f g h⟩⟩
end Go.Proofs.YtfilonnphgnplaaGreatDoor.Pv
namespace Go.Tidy
open Go
inductive Val where
 | mk (kind:Int) (num text:S) (items:List Val) (keys:List S)
namespace Val
def kind:Val→Int|.mk a _ _ _ _=>a
def num:Val→S|.mk _ a _ _ _=>a
def text:Val→S|.mk _ _ a _ _=>a
def items:Val→List Val|.mk _ _ _ a _=>a
def keys:Val→List S|.mk _ _ _ _ a=>a
end Val
end Go.Tidy
set_option maxRecDepth 100000
namespace Go.Proofs.YtfilonnphgnplaaGreatDoor.Pv
open Go Go.Tidy
end Go.Proofs.YtfilonnphgnplaaGreatDoor.Pv
set_option maxRecDepth 100000
namespace Go.Proofs.YtfilonnphgnplaaGreatDoor.Pv
open Go Go.Tidy
mutual
def akR:Val→List PV
 | .mk k n t is ks=>[.int .i64 k,.str n,.str t,.vec 5 false (alg is),.vec 1 false (ks.map encStr)]
def alg:List Val→List (List PV)
 | []=>[]
 | v::l=>akR v::alg l
end
theorem aEr (l:List Val):alg l=l.map akR:=by induction l with|nil=>rfl|cons a l ih=>simp[alg,ih]
abbrev cV (v:Val):List PV:=[.int .i64 v.kind,.str v.num,.str v.text,.vec 5 false (v.items.map akR),.vec 1 false (v.keys.map encStr)]
theorem aHx (v:Val):akR v=cV v:=by
 obtain⟨k,n,t,is,ks⟩:=v
 simp[akR,aEr,cV,Val.kind,Val.num,Val.text,Val.items,Val.keys]
attribute [simp] aHx
end Go.Proofs.YtfilonnphgnplaaGreatDoor.Pv
set_option maxRecDepth 100000
namespace Go.Proofs.YtfilonnphgnplaaGreatDoor.Pv
open Go Go.Tidy
end Go.Proofs.YtfilonnphgnplaaGreatDoor.Pv
set_option maxRecDepth 100000
namespace Go.Proofs.YtfilonnphgnplaaGreatDoor.Pv
open Go Go.Tidy
end Go.Proofs.YtfilonnphgnplaaGreatDoor.Pv
namespace Go.Tidy
open Go
def aKK {α:Type} (f:α→Bool):List α→Bool
 | []=>false
 | a::_=>f a
@[simp] theorem aNw {α:Type} (f:α→Bool):aKK f []=false:=rfl
@[simp] theorem aM6 {α:Type} (f:α→Bool) (a:α) (l:List α):aKK f (a::l)=f a:=rfl
theorem aLP {l:List S} (h:SSs l) {i j:Nat} (hi:i<l.length) (hj:j<l.length) (e:l[i]=l[j]):i=j:=by
 have key:∀ i j (hi:i<l.length) (hj:j<l.length),i<j→l[i]≠l[j]:=fun i j hi hj hij e=>by
  have:=List.pairwise_iff_getElem.1 h i j hi hj hij
  rw[e,agr.2 rfl] at this
  cases this
 rcases Nat.lt_trichotomy i j with h1|h1|h1
 ·exact absurd e (key i j hi hj h1)
 ·exact h1
 ·exact absurd e.symm (key j i hj hi h1)
theorem aAS (o:Ob) (n:S):(∃ p∈jD o,p.1=n∧bg o n=p.2)∨(bg o n=(o.rest,false)∧∀ p∈jD o,p.1≠n):=by
 unfold bg
 split
 ·rename_i p hp
  exact .inl ⟨p,List.mem_of_find?_eq_some hp,qo.1 (by simpa using List.find?_some hp),rfl⟩
 ·rename_i hp
  exact .inr ⟨rfl,fun p hm e=>by
   have:=List.find?_eq_none.1 hp p hm
   exact this (qo.2 e)⟩
theorem aKi {o:Ob} (ho:bf o=true) {p q:S × Ty × Bool} (hp:p∈jD o) (hq:q∈jD o) (e:p.1=q.1):p=q:=by
 obtain⟨h1,h2,_⟩:=dz ho
 obtain⟨i,hi,rfl⟩:=List.getElem_of_mem hp
 obtain⟨j,hj,rfl⟩:=List.getElem_of_mem hq
 have hs:=kG ho
 unfold jD at e hi hj ⊢
 simp only[List.length_zip] at hi hj
 simp only[List.getElem_zip] at e
 have:=aLP hs (by omega) (by omega) e
 subst this
 rfl
theorem ZL {o:Ob} (ho:bf o=true) {p:S × Ty × Bool} (hp:p∈jD o):bg o p.1=p.2:=by
 rcases aAS o p.1 with ⟨q,hq,e1,e2⟩|⟨_,h⟩
 ·rw[e2,aKi ho hq hp e1]
 ·exact absurd rfl (h p hp)
end Go.Tidy
set_option maxRecDepth 100000
namespace Go.Proofs.YtfilonnphgnplaaGreatDoor.Pv
open Go Go.Tidy
end Go.Proofs.YtfilonnphgnplaaGreatDoor.Pv
set_option maxRecDepth 100000
namespace Go.Proofs.YtfilonnphgnplaaGreatDoor.Pv
open Go Go.Tidy
end Go.Proofs.YtfilonnphgnplaaGreatDoor.Pv
namespace Go.Tidy
open Go
theorem alb (l:List Ty):abd l=l.map nU:=by
 induction l with
 | nil=>simp[abd]
 | cons a l ih=>simp[abd,ih]
theorem aok (o x:Ob):qC o x=((x.names++o.names).all (fun n=>(!(bg o n).2||(bg x n).2)&&nU (bg o n).1 (bg x n).1)&&nU o.rest x.rest):=by
 obtain⟨ns,fs,ms,r⟩:=o
 simp only[qC,Ob.aeh,Ob.adF]
 congr 1
 refine congrArg _ (funext fun n=>?_)
 generalize bg x n=q
 have:ns.zip ((abd fs).zip ms)=(ns.zip (fs.zip ms)).map fun p=>(p.1,nU p.2.1,p.2.2):=by
  have h1:(abd fs).zip ms=(fs.zip ms).map fun q=>(nU q.1,q.2):=by
   rw[alb,List.zip_map_left]; rfl
  rw[h1,List.zip_map_right]; rfl
 rw[this,List.find?_map]
 have e:((fun p:S × (Ty→Bool) × Bool=>sEq p.1 n)∘fun p:S × Ty × Bool=>(p.1,nU p.2.1,p.2.2))=fun p=>sEq p.1 n:=rfl
 rw[e]
 simp only[bg,Ob.aeh,Ob.qL,Ob.VW,Ob.adF]
 cases (ns.zip (fs.zip ms)).find? (fun p=>sEq p.1 n)<;>simp
end Go.Tidy
namespace Go.Tidy
open Go
theorem ahQ (o:Ob):(jD o).length≤o.names.length:=by unfold jD; rw[List.length_zip]; omega
def aHC (o:Ob):Nat:=iW o.rest+lu o.fields
def atv {α:Type} (f:α→Nat) (l:List α):Nat:=(l.map f).foldr (·+·) 0
theorem au1 {α:Type} (f:α→Nat) (a:α) (l:List α):atv f (a::l)=f a+atv f l:=rfl
theorem am0:∀ l:List Ob,ng l=atv aHC l
 | []=>rfl
 | .mk ns fs ms r::l=>by rw[ng,au1,am0 l]; rfl
theorem amQ:∀ l:List Arr,kg l=atv (fun a=>iW a.item) l
 | []=>rfl
 | .mk t lo hi::l=>by rw[kg,au1,amQ l]; rfl
theorem ahG (t:Ty):iW t=1+(atv (fun a=>iW a.item) t.arrays+atv aHC t.objects):=by
 obtain⟨a,b,c,d,ns,e,ts,az,os⟩:=t
 rw[iW,amQ,am0]; rfl
theorem aen (h:Nat):bG h dn=dn:=by cases h<;>rfl
end Go.Tidy
set_option maxRecDepth 100000
namespace Go.Proofs.YtfilonnphgnplaaGreatDoor.Pv
open Go Go.Tidy
end Go.Proofs.YtfilonnphgnplaaGreatDoor.Pv
set_option maxRecDepth 100000
namespace Go.Proofs.YtfilonnphgnplaaGreatDoor.Pv
open Go Go.Tidy
end Go.Proofs.YtfilonnphgnplaaGreatDoor.Pv
namespace Go.Tidy
open Go
end Go.Tidy
set_option maxRecDepth 100000
namespace Go.Proofs.YtfilonnphgnplaaGreatDoor.Pv
open Go Go.Tidy
theorem aAy {a b:Ty} (ha:NI a=true) (hb:NI b=true):(wO a++wO b).length≤40000∧bdT (wO a++wO b) 20000 a∧bdT (wO a++wO b) 20000 b:=by
 obtain⟨h1,h2,_⟩:=alf (of_decide_eq_true ha)
 obtain⟨k1,k2,_⟩:=alf (of_decide_eq_true hb)
 exact⟨by simp; omega,ahA a (fun n hn=>List.mem_append_left _ hn) h2,ahA b (fun n hn=>List.mem_append_right _ hn) k2⟩
end Go.Proofs.YtfilonnphgnplaaGreatDoor.Pv
set_option maxRecDepth 100000
namespace Go.Proofs.YtfilonnphgnplaaGreatDoor.Pv
open Go Go.Tidy
theorem azE (a b:Ty) (h:a.objects.length+b.objects.length≤68719476736):Ret prog M.aeP [.agg (cT a),.agg (cT b)] (.vec 12 false ((a.objects++b.objects).map av)):=by
 refine Ret.go ah aCd (by simp) fun hb w0 F0 hG=>?_
 have h1:a.objects.length≤68719476736:=by omega
 simp[h,h1]
 rw[List.take_of_length_le (by simp)]
theorem al0 (l:List Ob):Ret prog M.QX [.vec 12 false (l.map av)] (.bool (l.all fun o=>ak (eu o))):=by
 refine Ret.go ah alN (by simp) fun hb w0 F0 hG=>?_
 simp only[fu,gQ,List.length_map,LIM,and_true] at hb
 generalize hB:(l.all fun o=>ak (eu o))=B
 obtain⟨J,hJ⟩ : ∃ J:Nat→Unit→Prop,J=fun k _=>iG (fun o=>ak (eu o)) l k:=⟨_,rfl⟩
 simp
 refine aU.cnt ah l.length (fun k _=>⟨[(3,.int .i64 k),(2,.bool false),(0,.vec 12 false (l.map av))],[]⟩) J () (by rw[hJ]; exact .zero) (by simp) fun k _ hk hj=>?_
 have hw:=wrap64 (n:=(k:Int)+1) (by omega) (by omega)
 have hj' : iG (fun o=>ak (eu o)) l k:=by rw[hJ] at hj; exact hj
 by_cases q1:k<l.length
 ·have c1:=yG l[k]
  have c2:=zm (eu l[k])
  cases e1:ak (eu l[k])
  ·have hBf:B=false:=by rw[← hB,List.all_eq_false]; exact⟨l[k],List.getElem_mem q1,by simp[e1]⟩
   rw[e1] at c2
   simp[q1]
   refine aj.ret (by simpa using c1) ?_
   simp
   refine aj.ret (by simpa using c2) ?_
   simp[hBf]
  ·have hJn:J (k+1) ():=by rw[hJ]; exact hj'.step q1 e1
   rw[e1] at c2
   simp[q1]
   refine aj.ret (by simpa using c1) ?_
   simp
   refine aj.ret (by simpa using c2) ?_
   simp[q1,hw]
   exact⟨(),hJn⟩
 ·have hBt:B=true:=by rw[← hB]; exact hj'.all q1
  simp[q1,hBt]
theorem aCy {o:Ob}:ak (eu o)=true↔bf o=true:=⟨fun h=>(cu h).2.2.2.2.2.2.2 o (by simp[eu]),oH⟩
end Go.Proofs.YtfilonnphgnplaaGreatDoor.Pv
namespace Go.Proofs.YtfilonnphgnplaaGreatDoor.Pv
open Go Go.RowKit
mutual
def geV (M:Nat):PV→Prop
 | .own g _ _ _ _|.ptr g _ _ _=>M≤g.2
 | .agg cs=>geL M cs
 | .tup cs=>geL M cs
 | .fn _ a b=>geL M a∧geL M b
 | .iface _ x=>geV M x
 | .opt _ x=>geV M x
 | .undef|.bool _|.int _ _|.str _|.nilp|.nilf|.nili|.vec _ _ _|.ref _|.raw _=>True
def geL (M:Nat):List PV→Prop
 | []=>True
 | x::xs=>geV M x∧geL M xs
end
def geR (M:Nat):List (List PV)→Prop
 | []=>True
 | x::xs=>geL M x∧geR M xs
def geH (M:Nat) (h:List (Key × Option HE)):Prop:=∀ p∈h,M≤p.1.2∧∀ e,p.2=some e→e.bx=true→geR M e.xs
theorem aHm {M:Nat}:∀ {l:List (List PV)},(∀ r∈l,geL M r)→geR M l
 | [],_=>trivial
 | r::l,h=>⟨h r (by simp),aHm fun x hx=>h x (by simp[hx])⟩
def DW (M:Nat) (c c1:Ctx):Ctx:=⟨fun k=>if k.2<M then c.β k else c1.β k,fun k=>if k.2<M then c.es k else c1.es k,fun k=>c.U k∨(M≤k.2∧c1.U k),c1.Fz⟩
section
variable {M:Nat} {c c1:Ctx} {w:World}
theorem ag7 {k:Key} (h:M≤k.2):(DW M c c1).β k=c1.β k∧(DW M c c1).es k=c1.es k:=⟨if_neg (by omega),if_neg (by omega)⟩
theorem join_le (hN:∀ k,c.U k→k.2<M) (hF:∀ b,c.Fz b→c1.Fz b):c.Le (DW M c c1):=⟨fun _ h=>.inl h,fun k h=>if_pos (hN k h),fun k h=>if_pos (hN k h),hF⟩
mutual
theorem ajG:∀ (x:PV) (v:Value),geV M x→bF w c1 x v→bF w (DW M c c1) x v
 | .own g e o l f,v,hg,h=>by
   have hg:M≤g.2:=hg
   obtain⟨j1,j2⟩:=ag7 (c:=c) (c1:=c1) hg
   obtain⟨h1,h2,h3,a,cap,h4⟩:=h
   refine⟨.inr ⟨hg,h1⟩,by rw[j2]; exact h2,h3,a,cap,?_⟩
   rw[j1]
   exact h4
 | .ptr g e i o,v,hg,h=>by
   have hg:M≤g.2:=hg
   obtain⟨j1,j2⟩:=ag7 (c:=c) (c1:=c1) hg
   obtain⟨h1,h2,ad,h3,h4⟩:=h
   exact⟨.inr ⟨hg,h1⟩,by rw[j2]; exact h2,ad,by rw[j1]; exact h3,h4⟩
 | .agg cs,v,hg,h=>by
   obtain⟨vs,e,h1,h2⟩:=h
   exact⟨vs,e,agN cs _ hg h1,h2⟩
 | .tup cs,v,hg,h=>by
   obtain⟨vs,e,h1⟩:=h
   exact⟨vs,e,agN cs _ hg h1⟩
 | .fn f a b,v,hg,h=>by
   obtain⟨x,y,e,h1,h2⟩:=h
   exact⟨x,y,e,agN a _ hg.1 h1,agN b _ hg.2 h2⟩
 | .iface t x,v,hg,h=>by
   obtain⟨u,e,h1⟩:=h
   exact⟨u,e,ajG x u hg h1⟩
 | .opt b x,v,hg,h=>⟨fun hb=>ajG x v hg (h.1 hb),h.2⟩
 | .vec e f xs,v,_,h=>by
   obtain⟨a,cap,h1,h2,h3,h4,h5,h6⟩:=h
   refine⟨a,cap,h1,h2,h3,h4,h5,?_⟩
   rcases h6 with h6|⟨ad,e1,e2,e3,e4⟩
   ·exact .inl h6
   ·exact .inr ⟨ad,e1,e2,e3,aJ.mono e ad.block rfl _ xs (c:=c1.d) (c':=(DW M c c1).d) (dZ.refl _ _) (Ctx.Le.d fun _ h=>h) e4⟩
 | .ref cs,v,_,h=>by
   obtain⟨ad,e1,e2,e3,e4⟩:=h
   exact⟨ad,e1,e2,e3,dW.mono ad.block rfl _ cs (c:=c1.d) (c':=(DW M c c1).d) (dZ.refl _ _) (Ctx.Le.d fun _ h=>h) e4⟩
 | .undef,_,_,h|.bool _,_,_,h|.int _ _,_,_,h|.str _,_,_,h|.nilp,_,_,h|.nilf,_,_,h|.nili,_,_,h|.raw _,_,_,h=>h
theorem agN:∀ (xs:List PV) (vs:List Value),geL M xs→aY w c1 xs vs→aY w (DW M c c1) xs vs
 | [],_,_,h=>h
 | x::xs,_,hg,h=>by
   obtain⟨u,us,e,h1,h2⟩:=h
   exact⟨u,us,e,ajG x u hg.1 h1,agN xs us hg.2 h2⟩
end
theorem aAw {b:Nat}:∀ (o:Nat) (xs:List PV),geL M xs→dW w c1 b o xs→dW w (DW M c c1) b o xs
 | _,[],_,_=>trivial
 | o,x::xs,hg,h=>by
   obtain⟨⟨v,h1,h2,h3⟩,h4⟩:=h
   exact⟨⟨v,h1,h2,ajG x v hg.1 h3⟩,aAw (o+1) xs hg.2 h4⟩
theorem apo {n b:Nat}:∀ (o:Nat) (xs:List (List PV)),geR M xs→aJ w c1 n b o xs→aJ w (DW M c c1) n b o xs
 | _,[],_,_=>trivial
 | o,x::xs,hg,h=>by
   obtain⟨h1,h2,h3⟩:=h
   exact⟨h1,aAw o x hg.1 h2,apo (o+n) xs hg.2 h3⟩
theorem aLx {k:Key} {e:HE} (hk' : M≤k.2) (hg:e.bx=true→geR M e.xs) (h:RU w c1 k e):RU w (DW M c c1) k e:=by
 obtain⟨j1,j2⟩:=ag7 (c:=c) (c1:=c1) hk'
 obtain⟨h1,h2,h3⟩:=h
 refine⟨.inr ⟨hk',h1⟩,by rw[j2]; exact h2,?_⟩
 rw[j1]
 cases hb:c1.β k with
 | none=>rw[hb] at h3; exact h3
 | some ad =>
   rw[hb] at h3
   obtain⟨a1,a2,a3,a4⟩:=h3
   refine⟨a1,a2,?_,a4⟩
   cases hx:e.bx
   ·rw[hx] at a3
    exact aJ.mono e.esz ad.block rfl _ e.xs (c:=c1.d) (c':=(DW M c c1).d) (dZ.refl _ _) (Ctx.Le.d fun _ h=>h) (by simpa using a3)
   ·rw[hx] at a3
    exact apo _ _ (hg hx) (by simpa using a3)
end
theorem aqU (k:Key):∀ (h h' : List (Key × Option HE)),(∃ e,hk k (h++h')=e∧(k,e)∈h∧hk k h=e)∨(hk k (h++h')=hk k h'∧(∀ e,(k,e) ∉ h)∧hk k h=none)
 | [],h'=>.inr ⟨rfl,by simp,rfl⟩
 | (j,x)::h,h'=>by
   rw[List.cons_append,gq,gq]
   by_cases e:k=j
   ·subst e
    exact .inl ⟨x,by rw[if_pos rfl],by simp,by rw[if_pos rfl]⟩
   ·rw[if_neg e,if_neg e]
    rcases aqU k h h' with ⟨y,h1,h2,h3⟩|⟨h1,h2,h3⟩
    ·exact .inl ⟨y,h1,by simp[h2],h3⟩
    ·exact .inr ⟨h1,fun y hy=>by
        rcases List.mem_cons.1 hy with q|q
        ·cases q; exact e rfl
        ·exact h2 y q,h3⟩
def LH (h h' : List (Key × Option HE)):Prop:=Ru (fun k=>hk k h) h' h
theorem aM8 {h h' : List (Key × Option HE)}:LH h h'=Ru (fun k=>hk k h) h' h:=rfl
def arS (P:Program) (f:FuncId) (args:List PV) (K:PV→List (Key × Option HE)→Prop):Prop :=
 callable P f=true∧∀ (M:Nat) (w:World) (F:Nat→Prop) (vs:List Value) (hG:GOk P w F),(∀ b,F b→b<w.heap.size)→aY w (VG F) args vs →
  Calls P f vs.toArray w fun e w'=>∃ v c r h,e=.returned v∧K r h∧geV M r∧geH M h∧dw ⟨P,w,F,0,[],0,hG⟩ h c w'∧bF w' c r v
theorem arS.of {P:Program} {f nt:Nat} {m:MC} {rs:List RV} {args:List PV} {K:PV→List (Key × Option HE)→Prop} (ah:P.follows .mixedOrders=true) (hm:aV P f=some (m.erase,nt,rs)) (hn:args.length≤nt)
 (hx:∀ M w0 F0 hG,XC ⟨P,w0,F0,nt,[],M,hG⟩ m (St.init args) [] (alv rs fun r h''=>∃ h',K r h'∧geV M r∧geH M h'∧LH h'' h')):arS P f args K:=by
 obtain⟨fn,c0,hf,hc,hb,rfl,htm,hrs⟩:=PZ hm
 refine⟨hc,fun M w F vs hG hF hr=>calls_of_wp hf hb ?_⟩
 have hi:=ajT hG hF hr hn
 refine wp_mono (jk (E:=⟨P,w,F,fn.ntmps,[],M,hG⟩) ah c0 m (St.init args) _ w _ htm ⟨VG F,hi.defers,hi.size,hi.slot,hi.heap,hi.fresh,hi.apart,hi.fz,hi.le,hi.bnd,hi.below,hi.ghost⟩ (hx M w F hG)) ?_
 rintro e a' w' ⟨ex,st',rfl,hq,c',hg'⟩
 have key:∀ q:Jh st' rs∧∃ h',K (xw st' rs) h'∧geV M (xw st' rs)∧geH M h'∧LH st'.h h',a'.defers=[]∧∃ v,(results fn a'.tmps).run P w'=.ok v w'∧∃ v' c r h,Ending.returned v=.returned v'∧K r h∧geV M r∧geH M h∧dw ⟨P,w,F,0,[],0,hG⟩ h c w'∧bF w' c r v':=by
  rintro⟨q1,h',q2,q3,q4,q5⟩
  obtain⟨v,k1,k2⟩:=QJ hg' hrs q1
  have hgl:=Good.leH (s:=st'.s) (h:=st'.h) (h':=h') hg' fun k=>asR k q5
  exact⟨hg'.defers,v,k1,v,c',_,h',rfl,q2,q3,q4,⟨hgl.heap,hgl.fresh,hgl.apart,hgl.fz,hgl.le,hgl.bnd,hgl.below⟩,k2⟩
 cases ex with
 | normal=>exact key hq
 | ret=>exact key hq
 | exit id=>exact hq.elim
 | goto l=>exact hq.elim
theorem aFg:∀ h:List (Key × Option HE),∃ L,∀ p∈h,p.1.2<L
 | []=>⟨0,by simp⟩
 | p::h=>by
   obtain⟨L,hL⟩:=aFg h
   refine⟨max (p.1.2+1) L,fun x hx=>?_⟩
   rcases List.mem_cons.1 hx with rfl|hx
   ·exact Nat.lt_of_lt_of_le (Nat.lt_succ_self _) (Nat.le_max_left _ _)
   ·exact Nat.lt_of_lt_of_le (hL x hx) (Nat.le_max_right _ _)
theorem aj.aNK {E:Env} {f:FuncId} {args:List PV} {d:Option Nat} {ms:List MOp} {st:St} {ks:List KF} {Q:Ex→St→Prop} {K:PV→List (Key × Option HE)→Prop} (hkf:kfL args=true) (hr:arS E.P f args K)
 (h:∀ M r h',E.V≤M→(∀ p∈st.h,p.1.2<M)→K r h'→geV M r→geH M h'→XR E ms ⟨Ji d r st.s,st.h++h'⟩ ks Q):aj E f args d ms st ks Q:=by
 refine .inr ⟨hr.1,fun a c w vs hg hrep=>?_⟩
 obtain⟨N,hN⟩:=hg.bnd
 obtain⟨L,hL⟩:=aFg st.h
 have hh:=hg.hgood
 obtain⟨M,hMM⟩ : ∃ M,M=max (max N E.V) L:=⟨_,rfl⟩
 have hM:∀ k,c.U k→k.2<M:=fun k hk=>by have:=hN k hk; omega
 have hLM:∀ p∈st.h,p.1.2<M:=fun p hp=>by have:=hL p hp; omega
 refine Calls.mono (hr.2 M w c.Fz vs hh.gok (fun b hb=>(hh.fz b hb).1) (aY.mono _ _ (dZ.refl _ _) (aly fun _ h=>h) (adE _ _ hkf hrep))) ?_
 rintro e w' ⟨v,c1,r,h1,he,hK,g1,g2,hg1,hv⟩
 have hb:Bel w.heap.size w w':=hg1.below
 have hF1:∀ b,c.Fz b→c1.Fz b:=hg1.le
 have hF2:∀ b,c1.Fz b→b<w'.heap.size∧(c.Fz b∨w.heap.size≤b):=hg1.fz
 obtain⟨o1,o2,o3⟩:=hh.grow hb hF1 hF2
 have hle:c.Le (DW M c c1):=join_le hM hF1
 have hin:∀ k e,hk k h1=some e→(k,some e)∈h1:=fun k e hke=>by
  rcases aqU k h1 [] with ⟨x,q1,q2,q3⟩|⟨q1,q2,q3⟩
  ·rw[q3] at hke
   rw[← hke]; exact q2
  ·rw[q3] at hke; cases hke
 have cases' : ∀ k e,hk k (st.h++h1)=some e→(M≤k.2∧hk k h1=some e∧(e.bx=true→geR M e.xs))∨(hk k st.h=some e∧k.2<M):=fun k e hke=>by
  rcases aqU k st.h h1 with ⟨x,q1,q2,q3⟩|⟨q1,q2,q3⟩
  ·rw[hke] at q1
   subst q1
   exact .inr ⟨q3,hLM _ q2⟩
  ·rw[hke] at q1
   have q4:=g2 _ (hin k e q1.symm)
   exact .inl ⟨q4.1,q1.symm,q4.2 e rfl⟩
 refine⟨v,he,⟨Ji d r st.s,st.h++h1⟩,DW M c c1,h M r h1 (by omega) hLM hK g1 g2,?_⟩
 refine hg.put (r:=r) (by cases d<;>rfl) ⟨fun k e hke=>?_,fun k e ad hke had=>?_,fun k k' e e' ad ad' hke hke' had had' hne=>?_,fun b hb'=>?_,fun b hb'=>hF1 b (hh.le b hb'),?_,hh.below.trans (hb.mono hh.below.size)⟩ (ajG r v g1 hv) hle o2
 ·rcases cases' k e hke with ⟨q1,q2,q3⟩|⟨q1,q2⟩
  ·exact aLx q1 q3 (hg1.heap k e q2)
  ·refine (hh.heap k e q1).mono o2 hle (fun ad had=>⟨fun hf=>?_,hF1 _⟩) (fun ad had=>hb.block _ (hh.fresh k e ad q1 had).2)
   rcases (hF2 _ hf).2 with h3|h3
   ·exact h3
   ·have:=(hh.fresh k e ad q1 had).2
    omega
 ·rcases cases' k e hke with ⟨q1,q2,q3⟩|⟨q1,q2⟩
  ·rw[(ag7 q1).1] at had
   have:=hg1.fresh k e ad q2 had
   exact⟨Nat.le_trans hh.below.size this.1,this.2⟩
  ·rw[show (DW M c c1).β k=c.β k from if_pos q2] at had
   have:=hh.fresh k e ad q1 had
   exact⟨this.1,Nat.lt_of_lt_of_le this.2 hb.size⟩
 ·have key:∀ k e ad,hk k (st.h++h1)=some e→(DW M c c1).β k=some ad→(hk k h1=some e∧c1.β k=some ad∧w.heap.size≤ad.block)∨(hk k st.h=some e∧c.β k=some ad∧ad.block<w.heap.size):=fun k e ad hke had=>by
     rcases cases' k e hke with ⟨q1,q2,q3⟩|⟨q1,q2⟩
     ·rw[(ag7 q1).1] at had
      exact .inl ⟨q2,had,(hg1.fresh k e ad q2 had).1⟩
     ·rw[show (DW M c c1).β k=c.β k from if_pos q2] at had
      exact .inr ⟨q1,had,(hh.fresh k e ad q1 had).2⟩
  rcases key k e ad hke had with ⟨a1,a2,a3⟩|⟨a1,a2,a3⟩<;>rcases key k' e' ad' hke' had' with ⟨b1,b2,b3⟩|⟨b1,b2,b3⟩
  ·exact hg1.apart k k' e e' ad ad' a1 b1 a2 b2 hne
  ·omega
  ·omega
  ·exact hh.apart k k' e e' ad ad' a1 b1 a2 b2 hne
 ·refine⟨(hF2 b hb').1,?_⟩
  rcases (hF2 b hb').2 with h3|h3
  ·exact (hh.fz b h3).2
  ·exact .inr (Nat.le_trans hh.below.size h3)
 ·obtain⟨N1,hN1⟩:=hg1.bnd
  refine⟨max M N1,fun k hk=>?_⟩
  rcases hk with hk|⟨_,hk⟩
  ·exact Nat.lt_of_lt_of_le (hM k hk) (Nat.le_max_left _ _)
  ·exact Nat.lt_of_lt_of_le (hN1 k hk) (Nat.le_max_right _ _)
def LSF (fzk:List Key) (st S:St):Prop:=LS ⟨st.s,jY (fun k=>hk k st.h) fzk++st.h⟩ S
theorem aH2 {fzk:List Key} {s:List (Nat × PV)} {h:List (Key × Option HE)} {S:St}:LSF fzk ⟨s,h⟩ S=LS ⟨s,jY (fun k=>hk k h) fzk++h⟩ S:=rfl
def LNV (E:Env) {γ:Type} (n:Nat) (S:Nat→γ→St) (J:Nat→γ→Prop) (i:Nat) (ks:List KF) (Q:Ex→St→Prop):Ex→St→Prop
 | .normal,st'=>i<n∧∃ g fzk,J (i+1) g∧LSF fzk st' (S (i+1) g)
 | e,st'=>XE E e st' ks Q
section
variable {E:Env} {body:MC} {st st' : St} {ks:List KF} {Q:Ex→St→Prop} {γ:Type} {n i:Nat} {S' : Nat→γ→St} {J' : Nat→γ→Prop}
theorem aFu:LNV E n S' J' i ks Q .normal st'=(i<n∧∃ g fzk,J' (i+1) g∧LSF fzk st' (S' (i+1) g)):=propext Iff.rfl
theorem aJB {id:Nat}:LNV E n S' J' i ks Q (.exit id) st'=XE E (.exit id) st' ks Q:=propext Iff.rfl
theorem aK0:LNV E n S' J' i ks Q .ret st'=XE E .ret st' ks Q:=propext Iff.rfl
theorem aJX {id:Nat}:LNV E n S' J' i ks Q (.goto id) st'=XE E (.goto id) st' ks Q:=propext Iff.rfl
theorem aU.aMK (ah:E.P.follows .mixedOrders=true) (n:Nat) (S' : Nat→γ→St) (J' : Nat→γ→Prop) (g0:γ) (h0:J' 0 g0) (hst:LS st (S' 0 g0))
 (hr:∀ i g N,i≤n→J' i g→E.V≤N→(∀ k e,hk k (S' i g).h=some e→k.2<N)→XC ⟨E.P,E.w0,E.F0,E.nt,E.G,N,E.glob⟩ body (S' i g) [] (LNV E n S' J' i ks Q)):aU E (.loop body) st ks Q:=by
 intro c hm a w hrel
 obtain⟨x,rfl,hm1⟩:=zk hm
 refine wp_loop_ghost (fun m a w=>∃ i g,i≤n∧J' i g∧n-i=m∧Rel E (S' i g) a w) n ⟨0,g0,Nat.zero_le _,h0,rfl,hst.le a w hrel⟩ ?_
 rintro m a w ⟨i,g,hi,hJ,rfl,c,hg⟩
 obtain⟨N,hN⟩:=hg.bnd
 refine wp_mono (jk (E:=⟨E.P,E.w0,E.F0,E.nt,E.G,max N E.V,E.glob⟩) ah x body (S' i g) a w _ hm1 ⟨c,hg.defers,hg.size,hg.slot,hg.heap,hg.fresh,hg.apart,hg.fz,hg.le,hg.bnd,hg.below,hg.ghost⟩ (hr i g (max N E.V) hi hJ (Nat.le_max_right _ _) fun k e hk=>Nat.lt_of_lt_of_le (hN k (hg.heap k e hk).1) (Nat.le_max_left _ _))) ?_
 rintro e a' w' ⟨ex,st',rfl,hq,c',hg'⟩
 have hr' : Rel E st' a' w':=⟨c',hg'.defers,hg'.size,hg'.slot,hg'.heap,hg'.fresh,hg'.apart,hg'.fz,hg'.le,hg'.bnd,hg'.below,hg'.ghost⟩
 cases ex with
 | normal =>
   obtain⟨hlt,g',fzk,h1,h3⟩:=hq
   exact⟨n-(i+1),by omega,i+1,g',hlt,h1,rfl,h3.le a' w' (Le.freeze fzk a' w' hr')⟩
 | exit id=>exact⟨.exit id,st',rfl,hq,hr'⟩
 | goto l=>exact⟨.goto l,st',rfl,hq,hr'⟩
 | ret=>exact⟨.ret,st',rfl,hq,hr'⟩
end
attribute [simp] aFu aJB aK0 aJX
theorem aKj (hl:Key→Option HE) (x:Option HE):leE hl x x:=by
 cases x with
 | none=>trivial
 | some e=>exact⟨rfl,rfl,.inl rfl,aK hl _⟩
theorem aFl {hl:Key→Option HE} {h:List (Key × Option HE)}:∀ {h' : List (Key × Option HE)},(∀ p∈h',leE hl (hk p.1 h) p.2)→Ru hl h' h
 | [],_=>trivial
 | (k,e)::l,hp=>⟨hp (k,e) (by simp),aFl fun p hp'=>hp p (by simp[hp'])⟩
theorem aAY {hl:Key→Option HE} {h:List (Key × Option HE)}:∀ {h1 h2:List (Key × Option HE)},Ru hl (h1++h2) h=(Ru hl h1 h∧Ru hl h2 h)
 | [],h2=>by simp[Ru]
 | (k,e)::l,h2=>by
   simp only[List.cons_append,Ru,aAY,and_assoc]
end Go.Proofs.YtfilonnphgnplaaGreatDoor.Pv
set_option maxRecDepth 100000
namespace Go.Proofs.YtfilonnphgnplaaGreatDoor.Pv
open Go Go.Tidy
def twF (o:Ob) (u:Nat):List PV:=twO o (.vec 1 false (o.names.map encStr)) (.own (69,u) 9 0 o.fields.length false) (.vec 1 false (o.must.map jH))
def qO:List Ob→List Nat→List (List PV)
 | [],_=>[]
 | o::os,[]=>av o::os.map av
 | o::os,u::us=>twF o u::qO os us
def tlN:List Ob→List Nat→List (Key × Option HE)
 | o::os,u::us=>((69,u),some ⟨9,o.fields.map eU,false,false⟩)::tlN os us
 | _,_=>[]
theorem ajZ (os:List Ob):qO os []=os.map av:=by cases os<;>rfl
theorem aFj (os:List Ob):tlN os []=[]:=by cases os<;>rfl
theorem ajC:∀ (os:List Ob) (us:List Nat),(qO os us).length=os.length
 | [],_=>rfl
 | o::os,[]=>by simp[qO]
 | o::os,u::us=>by simp[qO,ajC os us]
theorem aBQ:∀ {os:List Ob} {us:List Nat} (h:us.length<os.length),(qO os us)[us.length]? = some (cO os[us.length])
 | o::os,[],h=>by simp[qO]
 | o::os,u::us,h=>by
   have:=aBQ (os:=os) (us:=us) (by simpa using h)
   simpa[qO] using this
theorem au5:∀ {os:List Ob} {us:List Nat} (h:us.length<os.length) (u:Nat),(qO os us).set us.length (twF os[us.length] u)=qO os (us++[u])
 | o::os,[],h,u=>by simp[qO,ajZ]
 | o::os,w::us,h,u=>by
   have:=au5 (os:=os) (us:=us) (by simpa using h) u
   simpa[qO] using this
theorem aE0:∀ {os:List Ob} {us:List Nat} (h:us.length<os.length) (u:Nat),tlN os (us++[u])=tlN os us++[((69,u),some ⟨9,os[us.length].fields.map eU,false,false⟩)]
 | o::os,[],h,u=>by simp[tlN,aFj]
 | o::os,w::us,h,u=>by
   have:=aE0 (os:=os) (us:=us) (by simpa using h) u
   simpa[tlN] using this
theorem alz:∀ {os:List Ob} {us:List Nat} {p:Key × Option HE},p∈tlN os us→∃ u∈us,p.1=(69,u)
 | [],us,p,h=>by simp[tlN] at h
 | o::os,[],p,h=>by simp[tlN] at h
 | o::os,u::us,p,h=>by
   rcases List.mem_cons.1 h with rfl|h
   ·exact⟨u,by simp,rfl⟩
   ·obtain⟨w,hw,e⟩:=alz h
    exact⟨w,by simp[hw],e⟩
theorem aE5:∀ {os:List Ob} {us:List Nat},us.length≤os.length→∀ u∈us,∃ e,((69,u),some e)∈tlN os us
 | os,[],_,u,h=>by cases h
 | [],w::us,hl,u,h=>by simp at hl
 | o::os,w::us,hl,u,h=>by
   rcases List.mem_cons.1 h with rfl|h
   ·exact⟨_,List.mem_cons_self⟩
   ·obtain⟨e,he⟩:=aE5 (os:=os) (us:=us) (by simpa using hl) u h
    exact⟨e,List.mem_cons_of_mem _ he⟩
theorem aCo:∀ {os:List Ob} {us:List Nat},us.Nodup→∀ p∈tlN os us,hk p.1 (tlN os us)=p.2
 | [],us,hn,p,hp=>by simp[tlN] at hp
 | o::os,[],hn,p,hp=>by simp[tlN] at hp
 | o::os,u::us,hn,p,hp=>by
   have hn':=List.nodup_cons.1 hn
   rw[show tlN (o::os) (u::us)=((69,u),some ⟨9,o.fields.map eU,false,false⟩)::tlN os us from rfl] at hp ⊢
   rcases List.mem_cons.1 hp with rfl|hp
   ·rw[gq,if_pos rfl]
   ·obtain⟨w,hw,e⟩:=alz hp
    rw[gq,if_neg (by rw[e]; intro q; cases q; exact hn'.1 hw)]
    exact aCo hn'.2 p hp
theorem aeR {hl:Key→Option HE}:∀ {l:List (List PV)} {k:Nat} {a b:List PV},leL hl a b→leR hl (l.set k a) (l.set k b)
 | [],_,_,_,_=>by simp[leR]
 | x::l,0,a,b,h=>⟨h,aK hl l⟩
 | x::l,k+1,a,b,h=>⟨aap hl x,aeR h⟩
theorem aLj {os:List Ob} {us:List Nat} (hn:us.Nodup) (front:List (Key × Option HE)) (hl:Key→Option HE) (hf:∀ q∈front,q.1.1=69→q.1.2 ∉ us):Ru hl (tlN os us) (front++tlN os us):=by
 refine aFl fun p hp=>?_
 obtain⟨w,hw,e⟩:=alz hp
 have h1:hk p.1 (front++tlN os us)=hk p.1 (tlN os us):=by
  rcases aqU p.1 front (tlN os us) with ⟨y,q1,q2,q3⟩|⟨q1,_,_⟩
  ·have:=hf _ q2 (by rw[e])
   rw[e] at this
   exact absurd hw this
  ·exact q1
 rw[h1,aCo hn p hp]
 exact aKj _ _
theorem azw {V:Nat}:∀ {os:List Ob} {us:List Nat},(∀ x∈us,V≤x)→∀ r∈qO os us,geL V r
 | [],_,_,r,hr=>by simp[qO] at hr
 | o::os,[],_,r,hr=>by
   rw[ajZ] at hr
   obtain⟨x,_,rfl⟩:=List.mem_map.1 hr
   simp[geL,geV]
 | o::os,u::us,h,r,hr=>by
   rcases List.mem_cons.1 hr with rfl|hr
   ·simp[twF,twO,geL,geV,h u]
   ·exact azw (fun x hx=>h x (by simp[hx])) r hr
theorem aIj:∀ {os:List Ob} {us:List Nat} {p:Key × Option HE} {e:HE},p∈tlN os us→p.2=some e→e.bx=false
 | [],us,p,e,h,_=>by simp[tlN] at h
 | o::os,[],p,e,h,_=>by simp[tlN] at h
 | o::os,u::us,p,e,h,he=>by
   rcases List.mem_cons.1 h with rfl|h
   ·cases he; rfl
   ·exact aIj h he
inductive OkT (us:List Nat) (tl:List (Key × Option HE)):List (Key × Option HE)→Prop where
 | nil:OkT us tl tl
 | cons {q:Key × Option HE} {h:List (Key × Option HE)}:(q.1.1=69→q.1.2 ∉ us)→OkT us tl h→OkT us tl (q::h)
theorem OkT.front {us:List Nat} {tl h:List (Key × Option HE)} (k:OkT us tl h):∃ f,h=f++tl∧∀ q∈f,q.1.1=69→q.1.2 ∉ us:=by
 induction k with
 | nil=>exact⟨[],rfl,by simp⟩
 | cons h1 _ ih =>
   obtain⟨f,rfl,hf⟩:=ih
   refine⟨_::f,rfl,fun q hq=>?_⟩
   rcases List.mem_cons.1 hq with rfl|hq
   ·exact h1
   ·exact hf q hq
theorem OkT.sub {os:List Ob} {us:List Nat} {h:List (Key × Option HE)} {hl:Key→Option HE} (hn:us.Nodup) (k:OkT us (tlN os us) h):Ru hl (tlN os us) h:=by
 obtain⟨f,rfl,hf⟩:=k.front
 exact aLj hn f hl hf
def twK (t:Ty) (r:PV) (h:List (Key × Option HE)):Prop:=∃ v us,us.length=t.objects.length∧us.Nodup∧r=.agg (lg t (.own (1017,v) 11 0 t.arrays.length false) (.own (1019,v) 12 0 t.objects.length false)) ∧
 h=((1017,v),some ⟨11,t.arrays.map dh,false,false⟩)::((1019,v),some ⟨12,qO t.objects us,false,true⟩)::tlN t.objects us
set_option maxHeartbeats 8000000 in
theorem aKF (t:Ty) (h1:t.nums.length≤34359738368) (h2:t.texts.length≤34359738368) (h3:t.arrays.length≤34359738368) (h4:t.objects.length≤34359738368)
 (hA:∀ a∈t.arrays,Ret prog M.jc [.agg (cT a.item)] (.agg (cT a.item)))
 (hO:∀ o∈t.objects,o.names.length≤34359738368∧o.fields.length≤34359738368∧o.must.length≤34359738368∧(∀ f∈o.fields,Ret prog M.jc [.agg (cT f)] (.agg (cT f)))∧Ret prog M.jc [.agg (cT o.rest)] (.agg (cT o.rest))) :
 arS prog M.jc [.agg (cT t)] (twK t):=by
 refine arS.of ah akZ (by simp) fun V w0 F0 hG=>?_
 have c1:=aah false (t.nums.map dH) (by simp; omega)
 have c2:=sW false (t.texts.map encStr) (by simp; omega)
 have c3:=abq false (t.arrays.map dh) (by simp; omega)
 have c4:=OO false (t.objects.map av) (by simp; omega)
 simp
 intro v1 hv1 v2 hv2 v3 hv3
 refine aH.ru c1 ?_
 simp
 refine aH.ru c2 ?_
 simp
 intro v4 hv4
 refine aH.ru c3 ?_
 simp
 refine aH.ru c4 ?_
 simp
 refine aU.anew [(8000001,11,1007),(9000001,12,1008)] rfl (fun v=>⟨[(26,.int .i64 0),(25,.int .i64 t.arrays.length),(2,.ptr (2,v2) 9 0 0),(1,.ptr (1,v1) 9 0 0)],[((1,v1),some ⟨9,[lg t (.own (1007,v) 11 0 t.arrays.length false) (.own (1008,v) 12 0 t.objects.length false)],false,true⟩),((1007,v),some ⟨11,t.arrays.map dh,false,false⟩),((1008,v),some ⟨12,t.objects.map av,false,false⟩),((2,v2),some ⟨9,[M.z1],false,true⟩)]⟩) (fun v=>by simp[lg,aK]) fun v hv=>?_
 refine aU.cnt ah t.arrays.length (fun k (_:Unit)=>⟨[(26,.int .i64 k),(25,.int .i64 t.arrays.length),(2,.ptr (2,v2) 9 0 0),(1,.ptr (1,v1) 9 0 0)],[((1,v1),some ⟨9,[lg t (.own (1007,v) 11 0 t.arrays.length false) (.own (1008,v) 12 0 t.objects.length false)],false,true⟩),((1007,v),some ⟨11,t.arrays.map dh,false,false⟩),((1008,v),some ⟨12,t.objects.map av,false,false⟩),((2,v2),some ⟨9,[M.z1],false,true⟩)]⟩) (fun _ _=>True) () trivial (by simp[lg,aK]) fun k _ hk _=>?_
 have hw:=wrap64 (n:=(k:Int)+1) (by omega) (by omega)
 by_cases g1:k<t.arrays.length
 ·have cA:=hA _ (List.getElem_mem g1)
  have hs:=aAX g1
  simp[g1,lg]
  intro v5 hv5
  refine aH.ret (by simpa using cA) ?_
  simp[g1,hw,hs,aK]
 simp[g1,lg]
 refine aU.anew [(8000001,11,1017),(9000001,12,1019)] rfl (fun v=>⟨[(45,.int .i64 0),(44,.int .i64 t.objects.length),(2,.ptr (2,v2) 9 0 0),(1,.ptr (1,v1) 9 0 0)],[((1,v1),some ⟨9,[lg t (.own (1017,v) 11 0 t.arrays.length false) (.own (1019,v) 12 0 t.objects.length false)],false,true⟩),((1017,v),some ⟨11,t.arrays.map dh,false,false⟩),((1019,v),some ⟨12,t.objects.map av,false,true⟩),((2,v2),some ⟨9,[M.z1],false,true⟩)]⟩) (fun v=>by simp[lg,aK]) fun u hu=>?_
 obtain⟨J,hJ⟩ : ∃ J:Nat→List Nat→Prop,J=fun k us=>us.length=k∧us.Nodup∧∀ x∈us,V≤x:=⟨_,rfl⟩
 refine aU.aMK ah t.objects.length (fun k us=>⟨[(45,.int .i64 k),(44,.int .i64 t.objects.length),(2,.ptr (2,v2) 9 0 0),(1,.ptr (1,v1) 9 0 0)],((1,v1),some ⟨9,[lg t (.own (1017,u) 11 0 t.arrays.length false) (.own (1019,u) 12 0 t.objects.length false)],false,true⟩)::((1017,u),some ⟨11,t.arrays.map dh,false,false⟩)::((1019,u),some ⟨12,qO t.objects us,false,true⟩)::((2,v2),some ⟨9,[M.z1],false,true⟩)::tlN t.objects us⟩) J [] (by rw[hJ]; simp) (by simp[lg,ajZ,aFj,aK]) fun k us N hk hj hVN hN=>?_
 have hVN:V≤N:=hVN
 obtain⟨j1,j2,j3⟩ : us.length=k∧us.Nodup∧∀ x∈us,V≤x:=by rw[hJ] at hj; exact hj
 have hw:=wrap64 (n:=(k:Int)+1) (by omega) (by omega)
 by_cases g2:k<t.objects.length
 ·obtain⟨o1,o2,o3,o4,o5⟩:=hO _ (List.getElem_mem g2)
  have d1:=sW false (t.objects[k].names.map encStr) (by simp; omega)
  have d2:=aai false (t.objects[k].must.map jH) (by simp; omega)
  have d3:=aag false (t.objects[k].fields.map eU) (by simp; omega)
  have hX:(qO t.objects us)[k]? = some (cO t.objects[k]):=by subst j1; exact aBQ g2
  have hXl:=ajC t.objects us
  have hset:=fun x=>au5 (os:=t.objects) (us:=us) (by omega) x
  have htl:=fun x=>aE0 (os:=t.objects) (us:=us) (by omega) x
  have hkt:=aCo (os:=t.objects) j2
  have hfr:∀ x∈us,x<N:=fun x hx=>by
   obtain⟨e,he⟩:=aE5 (os:=t.objects) (us:=us) (by omega) x hx
   have:=hkt _ he
   refine hN (69,x) e ?_
   simpa[hk] using this
  clear hN
  generalize ho:t.objects[k]=o at *
  have hXk:(qO t.objects us)[k]'(by omega)=cO o:=(List.getElem?_eq_some_iff.1 hX).2
  simp[g2,lg,ho,hXl,hXk]
  intro v5 hv5
  have hnv:v5 ∉ us:=fun hc=>by have:=hfr _ hc; omega
  refine aH.ru d1 ?_
  simp[g2,ho,hXl,hXk]
  refine aH.ru d2 ?_
  simp[g2,ho,hXl,hXk]
  refine aH.ru d3 ?_
  simp[g2,ho,hXl,hXk]
  refine aU.cnt ah o.fields.length (fun j (_:Unit)=>⟨[(81,.int .i64 j),(80,.int .i64 o.fields.length),(5,.ptr (1019,u) 12 k 0),(45,.int .i64 k),(44,.int .i64 t.objects.length),(2,.ptr (2,v2) 9 0 0),(1,.ptr (1,v1) 9 0 0)],
   ((1019,u),some ⟨12,(qO t.objects us).set k (twO o (.own (59,v5) 1 0 o.names.length false) (.own (69,v5) 9 0 o.fields.length false) (.own (64,v5) 1 0 o.must.length false)),false,true⟩)::((69,v5),some ⟨9,o.fields.map eU,false,false⟩)::((64,v5),some ⟨1,o.must.map jH,false,false⟩)::((59,v5),some ⟨1,o.names.map encStr,false,false⟩)::((1,v1),some ⟨9,[lg t (.own (1017,u) 11 0 t.arrays.length false) (.own (1019,u) 12 0 t.objects.length false)],false,true⟩)::((1017,u),some ⟨11,t.arrays.map dh,false,false⟩)::((2,v2),some ⟨9,[M.z1],false,true⟩)::tlN t.objects us⟩) (fun _ _=>True) () trivial (by
     simp[lg,twO,aK]
     refine OkT.sub j2 ?_
     repeat (first|exact OkT.nil|refine OkT.cons (by simp[*]) ?_)) fun j _ hj _=>?_
  have hwj:=wrap64 (n:=(j:Int)+1) (by omega) (by omega)
  by_cases g3:j<o.fields.length
  ·have cF:=o4 _ (List.getElem_mem g3)
   have hsf:=aFb g3
   simp[g2,g3,lg,twO,hXl]
   intro v6 hv6
   refine aH.ret (by simpa using cF) ?_
   simp[g2,g3,hwj,hsf,aK,hXl]
   refine OkT.sub j2 ?_
   repeat (first|exact OkT.nil|refine OkT.cons (by simp[*]) ?_)
  ·simp[g2,g3,lg,twO,hXl]
   refine aj.ret (by simpa using o5) ?_
   simp[g2,hw,hXl]
   refine⟨us++[v5],?_,[(59,v5),(64,v5)],?_⟩
   ·rw[hJ]
    refine⟨by simp[j1],List.nodup_append.2 ⟨j2,by simp,fun a ha b hb=>?_⟩,fun x hx=>?_⟩
    ·have:=hfr a ha
     rw[List.mem_singleton.1 hb]
     omega
    ·rcases List.mem_append.1 hx with hx|hx
     ·exact j3 x hx
     ·rw[List.mem_singleton.1 hx]
      omega
   ·rw[aH2]
    rw[htl,← hset]
    subst j1
    simp only[ho]
    simp[jY,twF,twO,aK,aAY]
    refine⟨aeR (by simp),?_⟩
    refine OkT.sub j2 ?_
    repeat (first|exact OkT.nil|refine OkT.cons (by simp[*]) ?_)
 ·have hu:V≤u:=hu
  have hkl:us.length=t.objects.length:=by omega
  simp[g2,lg]
  refine⟨((1017,u),some ⟨11,t.arrays.map dh,false,false⟩)::((1019,u),some ⟨12,qO t.objects us,false,true⟩)::tlN t.objects us,⟨u,us,hkl,j2,rfl,rfl⟩,?_,?_,?_⟩
  ·simp[geV,geL,hu]
  ·intro p hp
   rcases List.mem_cons.1 hp with rfl|hp
   ·exact⟨hu,fun e he hb=>by cases he; cases hb⟩
   rcases List.mem_cons.1 hp with rfl|hp
   ·exact⟨hu,fun e he hb=>by cases he; exact aHm (azw j3)⟩
   ·obtain⟨w,hw,e⟩:=alz hp
    exact⟨by rw[e]; exact j3 w hw,fun e he hb=>by rw[aIj hp he] at hb; cases hb⟩
  ·rw[aM8]
   simp[aK]
   refine OkT.sub j2 ?_
   repeat (first|exact OkT.nil|refine OkT.cons (by simp[*]) ?_)
end Go.Proofs.YtfilonnphgnplaaGreatDoor.Pv
namespace Go.Tidy
open Go
def JF (q:Nat) (a:Arr):Arr:=.mk (l5 q a.item) a.min a.max
def ay7 (q:Nat) (o:Ob):Ob:=.mk o.names (o.fields.map (l5 q)) o.must o.rest
def U6 (q:Nat) (o:Ob):Ob:=.mk o.names (o.fields.map (l5 q)) o.must (l5 q o.rest)
theorem avR (q:Nat):∀ l:List Arr,aqN q l=l.map (JF q)
 | []=>by simp[aqN]
 | .mk t lo hi::l=>by simp[aqN,avR q l,JF]
theorem au9 (q:Nat):∀ l:List Ty,ara q l=l.map (l5 q)
 | []=>by simp[ara]
 | t::l=>by simp[ara,au9 q l]
theorem au6 (q:Nat):∀ l:List Ob,apZ q l=l.map (U6 q)
 | []=>by simp[apZ]
 | .mk ns fs ms r::l=>by simp[apZ,au6 q l,U6,au9]
theorem aaK (h:Nat) (t:Ty):l5 h t=if t.all||(h == 0&&(!t.arrays.isEmpty||!t.objects.isEmpty)) then dn else .mk t.all t.null t.fls t.tru t.nums t.any t.texts (t.arrays.map (JF (h-1))) (t.objects.map (U6 (h-1))):=by
 obtain⟨a,b,c,d,ns,e,ts,az,os⟩:=t
 rw[l5,avR,au6]; rfl
end Go.Tidy
set_option maxRecDepth 100000
namespace Go.Proofs.YtfilonnphgnplaaGreatDoor.Pv
open Go Go.Tidy
def cuA (q:Nat) (a:Arr):List PV:=cA (JF q a)
def cuT (q:Nat) (t:Ty):List PV:=cT (l5 q t)
def cuF (q:Nat) (o:Ob):List PV:=cO (ay7 q o)
def cuO (q:Nat) (o:Ob):List PV:=cO (U6 q o)
def zA {α:Type} (f g:α→List PV) (l:List α) (k:Nat):List (List PV):=(l.take k).map f++(l.drop k).map g
section
variable {α:Type} {f g:α→List PV} {l:List α} {k:Nat}
theorem ahu:(zA f g l k).length=l.length:=by
 unfold zA
 simp only[List.length_append,List.length_map,List.length_take,List.length_drop]
 omega
theorem akF:zA f g l 0=l.map g:=by simp[zA]
theorem anG (h:l.length≤k):zA f g l k=l.map f:=by
 unfold zA
 rw[List.take_of_length_le h,List.drop_eq_nil_of_le h]; simp
theorem asg (h:k<l.length):(zA f g l k)[k]'(by rw[ahu]; exact h)=g l[k]:=by
 unfold zA
 rw[List.getElem_append_right (by simp; omega)]
 simp[show k-min k l.length=0 by omega]
theorem ang (h:k<l.length):(zA f g l k).set k (f l[k])=zA f g l (k+1):=by
 unfold zA
 rw[List.set_append_right _ _ (by simp; omega),List.drop_eq_getElem_cons h]
 simp only[List.length_map,List.length_take,List.map_cons]
 rw[show k-min k l.length=0 by omega,List.set_cons_zero,List.take_succ_eq_append_getElem h,List.map_append,List.append_assoc]
 rfl
end
theorem aE3 {hl:Key→Option HE} {x y:List PV} (h:leL hl x y) (R:List (List PV)):∀ P:List (List PV),leR hl (P++x::R) (P++y::R)
 | []=>⟨h,aK hl R⟩
 | p::P=>⟨aap hl p,aE3 h R P⟩
def AY (q:Nat) (os:List Ob) (us:List Nat) (k:Nat):List (List PV):=(os.take k).map (cuF q)++qO (os.drop k) (us.drop k)
section
variable {q:Nat} {os:List Ob} {us:List Nat} {k:Nat}
theorem aF6:AY q os us 0=qO os us:=by simp[AY]
theorem avG:(AY q os us k).length=os.length:=by
 unfold AY
 rw[List.length_append,ajC,List.length_map,List.length_take,List.length_drop]
 omega
theorem am3 (h:k<os.length) (hu:us.length=os.length):AY q os us k=(os.take k).map (cuF q)++twF os[k] us[k]::qO (os.drop (k+1)) (us.drop (k+1)):=by
 unfold AY
 rw[List.drop_eq_getElem_cons h,List.drop_eq_getElem_cons (l:=us) (by omega)]
 rfl
theorem aFK (h:k<os.length):AY q os us (k+1)=(os.take k).map (cuF q)++cuF q os[k]::qO (os.drop (k+1)) (us.drop (k+1)):=by
 unfold AY
 rw[List.take_succ_eq_append_getElem h,List.map_append,List.append_assoc]
 rfl
theorem aKf (h:k<os.length) (hu:us.length=os.length):(AY q os us k)[k]'(by rw[avG]; exact h)=twF os[k] us[k]:=by
 have e:=am3 (q:=q) h hu
 have:(AY q os us k)[k]? = some (twF os[k] us[k]):=by
  rw[e,List.getElem?_append_right (by simp; omega)]
  simp[show k-min k os.length=0 by omega]
 exact (List.getElem?_eq_some_iff.1 this).2
theorem aHQ (h:os.length≤k):AY q os us k=os.map (cuF q):=by
 unfold AY
 rw[List.take_of_length_le h,List.drop_eq_nil_of_le h]
 simp[qO]
theorem aJq (h:k<os.length) (hu:us.length=os.length):tlN (os.drop k) (us.drop k)=((69,us[k]),some ⟨9,os[k].fields.map eU,false,false⟩)::tlN (os.drop (k+1)) (us.drop (k+1)):=by
 rw[List.drop_eq_getElem_cons h,List.drop_eq_getElem_cons (l:=us) (by omega)]
 rfl
end
theorem aIo {α:Type} {f:α→List PV} (h:∀ a,kfL (f a)=true):∀ l:List α,kfR (l.map f)=true
 | []=>rfl
 | a::l=>by simp[kfR,h a,aIo h l]
theorem aMx (q:Nat) (o:Ob):kfL (cuF q o)=true:=by simp[cuF,kfL,kfV]
def mG (t:Ty) (a o:PV):List PV:=[.bool false,.bool t.null,.bool t.fls,.bool t.tru,.vec 2 false (t.nums.map dH),.bool t.any,.vec 1 false (t.texts.map encStr),a,o]
set_option maxHeartbeats 8000000 in
theorem aJH (t:Ty) (h:Nat) (hT:arS prog M.jc [.agg (cT t)] (twK t)) (hA:0<h→∀ a∈t.arrays,Ret prog M.p8 [.agg (cT a.item),.int .i64 (h-1:Nat)] (.agg (cT (l5 (h-1) a.item))))
 (hF:0<h→∀ o∈t.objects,∀ f∈o.fields,Ret prog M.p8 [.agg (cT f),.int .i64 (h-1:Nat)] (.agg (cT (l5 (h-1) f))))
 (hR:0<h→∀ o∈t.objects,Ret prog M.p8 [.agg (cT o.rest),.int .i64 (h-1:Nat)] (.agg (cT (l5 (h-1) o.rest)))) :
 Ret prog M.p8 [.agg (cT t),.int .i64 h] (.agg (cT (l5 h t))):=by
 refine Ret.go ah aqu (by simp) fun hb w0 F0 hG=>?_
 simp only[fu,gQ,List.length_map,LIM,and_true] at hb
 have cE:=oz
 have hh:(h:Int)≤9223372036854775807:=hb.2.2
 have hadd:=wrap64 (n:=(t.arrays.length:Int)+t.objects.length) (by omega) (by omega)
 cases e0:t.all
 case true =>
   rw[show l5 h t=dn by rw[aaK,e0]; rfl]
   simp[e0]
   intros
   refine aj.ret cE ?_
   simp[dn]
 by_cases g0:h=0∧0<t.arrays.length+t.objects.length
 ·obtain⟨rfl,g0⟩:=g0
  have hl:0<(t.arrays.length:Int)+t.objects.length:=by omega
  have hne:(!t.arrays.isEmpty||!t.objects.isEmpty)=true:=by
   cases ha:t.arrays with
   | cons _ _=>rfl
   | nil =>
     cases ho:t.objects with
     | cons _ _=>rfl
     | nil=>rw[ha,ho] at g0; simp at g0
  rw[show l5 0 t=dn by rw[aaK,e0,hne]; rfl]
  simp[e0,hl,hadd]
  intros
  refine aj.ret cE ?_
  simp[dn]
 have hC:l5 h t=.mk false t.null t.fls t.tru t.nums t.any t.texts (t.arrays.map (JF (h-1))) (t.objects.map (U6 (h-1))):=by
  have hc:(h == 0&&(!t.arrays.isEmpty||!t.objects.isEmpty))=false:=by
   by_cases hz:h=0
   ·have:t.arrays.length+t.objects.length=0:=by omega
    rw[List.length_eq_zero_iff.1 (show t.arrays.length=0 by omega),List.length_eq_zero_iff.1 (show t.objects.length=0 by omega)]
    simp
   ·simp[hz]
  rw[aaK,e0,hc]; rfl
 rw[hC]
 clear hC
 obtain⟨H,hH⟩ : ∃ H:Int,H=h:=⟨_,rfl⟩
 obtain⟨W,hW⟩ : ∃ W:Int,W=IntKind.i64.wrap (H-1):=⟨_,rfl⟩
 have hWq:0<h→W=((h-1:Nat):Int):=fun h0=>by rw[hW,hH,wrap64 (by omega) (by omega)]; omega
 have hpos:0<t.arrays.length+t.objects.length→0<h:=fun k=>by omega
 rw[← hH]
 obtain⟨q,hq⟩ : ∃ q,q=h-1:=⟨_,rfl⟩
 have hA' : ∀ a∈t.arrays,Ret prog M.p8 [.agg (cT a.item),.int .i64 W] (.agg (cT (l5 q a.item))):=fun a ha=>by
  have h0:=hpos (by have:=List.length_pos_of_mem ha; omega)
  rw[hWq h0,hq]; exact hA h0 a ha
 have hF' : ∀ o∈t.objects,∀ f∈o.fields,Ret prog M.p8 [.agg (cT f),.int .i64 W] (.agg (cT (l5 q f))):=fun o ho f hf=>by
  have h0:=hpos (by have:=List.length_pos_of_mem ho; omega)
  rw[hWq h0,hq]; exact hF h0 o ho f hf
 have hR' : ∀ o∈t.objects,Ret prog M.p8 [.agg (cT o.rest),.int .i64 W] (.agg (cT (l5 q o.rest))):=fun o ho=>by
  have h0:=hpos (by have:=List.length_pos_of_mem ho; omega)
  rw[hWq h0,hq]; exact hR h0 o ho
 rw[← hq]
 have hcase:((H=0)=True∧((0:Int)<(t.arrays.length:Int)+t.objects.length)=False)∨((H=0)=False∧True):=by
  by_cases hz:h=0
  ·exact .inl ⟨eq_true (by omega),eq_false (by omega)⟩
  ·exact .inr ⟨eq_false (by omega),trivial⟩
 clear hA hF hR hWq hpos
 have hbA:t.arrays.length≤140737488355328:=hb.1.2.2.2.2.2.2.2.1.1
 have hbO:t.objects.length≤140737488355328:=hb.1.2.2.2.2.2.2.2.2.1
 rcases hcase with ⟨gd,hs⟩|⟨gd,hs⟩
 all_goals
   simp[e0,gd,hs,hadd]
   intro w2 w4
   refine aj.aNK (K:=twK t) rfl (by simpa only[cT,e0] using hT) fun MM r h' hM hlt hK gg1 gg2=>?_
   obtain⟨v,us,u1,u2,rfl,rfl⟩:=hK
   simp[lg,e0]
   have tailOk:∀ (k:Nat),(us.drop k).Nodup:=fun k=>u2.sublist (List.drop_sublist k us)
   refine aU.cnt ah t.arrays.length (fun k (_:Unit)=>⟨[(32,.int .i64 k),(31,.int .i64 t.arrays.length),(4,.ptr (4,w4) 9 0 0),(2,.ptr (2,w2) 9 0 0),(1,.int .i64 H)],
    ((2,w2),some ⟨9,[mG t (.own (1017,v) 11 0 t.arrays.length false) (.own (1019,v) 12 0 t.objects.length false)],false,true⟩)::((4,w4),some ⟨9,[M.z1],false,true⟩)::((1017,v),some ⟨11,zA (cuA q) dh t.arrays k,false,false⟩)::((1019,v),some ⟨12,qO t.objects us,false,true⟩)::tlN t.objects us⟩) (fun _ _=>True) () trivial (by
      simp[mG,akF,aK]
      refine OkT.sub u2 ?_
      repeat (first|exact OkT.nil|refine OkT.cons (by simp) ?_)) fun k _ hk _=>?_
   have hw:=wrap64 (n:=(k:Int)+1) (by omega) (by omega)
   by_cases g1:k<t.arrays.length
   ·have cA:=hA' _ (List.getElem_mem g1)
    have hl:(zA (cuA q) dh t.arrays k).length=t.arrays.length:=ahu
    have hx:(zA (cuA q) dh t.arrays k)[k]'(by rw[hl]; exact g1)=dh t.arrays[k]:=asg g1
    have hs:=ang (f:=cuA q) (g:=dh) g1
    simp[g1,mG,hl,hx,← hW]
    intros
    refine aH.ret (by simpa using cA) ?_
    simp[g1,hw,hl,hx,aK]
    refine⟨by rw[← hs]; exact aeR (by simp[cuA,JF]),?_⟩
    refine OkT.sub u2 ?_
    repeat (first|exact OkT.nil|refine OkT.cons (by simp) ?_)
   have hAll:zA (cuA q) dh t.arrays k=t.arrays.map (cuA q):=anG (by omega)
   rw[hAll]
   clear hAll
   simp[g1,mG]
   refine aU.aMK ah t.objects.length (fun k (_:Unit)=>⟨[(53,.int .i64 k),(52,.int .i64 t.objects.length),(51,.own (1019,v) 12 0 t.objects.length false),(4,.ptr (4,w4) 9 0 0),(2,.ptr (2,w2) 9 0 0),(1,.int .i64 H)],
    ((2,w2),some ⟨9,[mG t (.own (1017,v) 11 0 t.arrays.length false) (.own (1019,v) 12 0 t.objects.length false)],false,true⟩)::((4,w4),some ⟨9,[M.z1],false,true⟩)::((1017,v),some ⟨11,t.arrays.map (cuA q),false,false⟩)::((1019,v),some ⟨12,AY q t.objects us k,false,true⟩)::tlN (t.objects.drop k) (us.drop k)⟩) (fun _ _=>True) () trivial (by
      simp[mG,aF6,aK]
      refine OkT.sub u2 ?_
      repeat (first|exact OkT.nil|refine OkT.cons (by simp) ?_)) fun i _ N hi _ hVN hN=>?_
   clear hN hVN
   have hwi:=wrap64 (n:=(i:Int)+1) (by omega) (by omega)
   by_cases g2:i<t.objects.length
   ·have hF:=hF' _ (List.getElem_mem g2)
    have hl:(AY q t.objects us i).length=t.objects.length:=avG
    have hx:(AY q t.objects us i)[i]'(by rw[hl]; exact g2)=twF t.objects[i] us[i]:=aKf g2 u1
    have hbf:t.objects[i].fields.length≤140737488355328:=by
     have:=Jr hb.1.2.2.2.2.2.2.2.2.2 _ (List.getElem_mem g2)
     simp[fu,gQ,LIM] at this
     omega
    have hnd:(us.drop (i+1)).Nodup:=tailOk (i+1)
    have hnu:us[i] ∉ us.drop (i+1):=by
     have:=tailOk i
     rw[List.drop_eq_getElem_cons (by omega)] at this
     exact (List.nodup_cons.1 this).1
    have hR1:=am3 (q:=q) g2 u1
    have hR2:=aFK (q:=q) (us:=us) g2
    rw[aJq g2 u1]
    generalize ho:t.objects[i]=o at *
    generalize huu:us[i]=u at *
    simp[g2,hl,hx,twF,twO]
    intro w7 hw7
    refine aU.cnt ah o.fields.length (fun j (_:Unit)=>⟨[(60,.int .i64 j),(59,.int .i64 o.fields.length),(7,.ptr (7,w7) 12 0 0),(53,.int .i64 i),(52,.int .i64 t.objects.length),(51,.own (1019,v) 12 0 t.objects.length false),(4,.ptr (4,w4) 9 0 0),(2,.ptr (2,w2) 9 0 0),(1,.int .i64 H)],
     ((69,u),some ⟨9,zA (cuT q) eU o.fields j,false,false⟩)::((7,w7),some ⟨12,[twF o u],false,true⟩)::((2,w2),some ⟨9,[mG t (.own (1017,v) 11 0 t.arrays.length false) (.own (1019,v) 12 0 t.objects.length false)],false,true⟩)::((4,w4),some ⟨9,[M.z1],false,true⟩)::((1017,v),some ⟨11,t.arrays.map (cuA q),false,false⟩)::((1019,v),some ⟨12,AY q t.objects us i,false,true⟩)::tlN (t.objects.drop (i+1)) (us.drop (i+1))⟩) (fun _ _=>True) () trivial (by
       simp[mG,twF,twO,akF,aK]
       refine OkT.sub hnd ?_
       repeat (first|exact OkT.nil|refine OkT.cons (by simp[hnu]) ?_)) fun j _ hj _=>?_
    have hwj:=wrap64 (n:=(j:Int)+1) (by omega) (by omega)
    by_cases g3:j<o.fields.length
    ·have cF:=hF _ (List.getElem_mem g3)
     have hl3:(zA (cuT q) eU o.fields j).length=o.fields.length:=ahu
     have hx3:(zA (cuT q) eU o.fields j)[j]'(by rw[hl3]; exact g3)=eU o.fields[j]:=asg g3
     have hs3:=ang (f:=cuT q) (g:=eU) g3
     simp[g3,hl3,hx3,mG,twF,twO,← hW]
     intros
     refine aH.ret (by simpa using cF) ?_
     simp[g3,hwj,hl3,hx3,aK]
     refine⟨by rw[← hs3]; exact aeR (by simp[cuT]),?_⟩
     refine OkT.sub hnd ?_
     repeat (first|exact OkT.nil|refine OkT.cons (by simp[hnu]) ?_)
    ·have hAll:zA (cuT q) eU o.fields j=o.fields.map (cuT q):=anG (by omega)
     rw[hAll]
     clear hAll
     simp[g2,g3,hwi,mG,twF,twO]
     refine⟨[(69,u)],?_⟩
     rw[aH2,hR1,hR2]
     simp[jY,aK]
     refine⟨aE3 (by simp[twF,twO,cuF,ay7,cuT]) _ _,?_⟩
     refine OkT.sub hnd ?_
     repeat (first|exact OkT.nil|refine OkT.cons (by simp[hnu]) ?_)
   ·have hAll:AY q t.objects us i=t.objects.map (cuF q):=aHQ (by omega)
    rw[hAll]
    clear hAll
    simp[g2,mG]
    refine aU.cnt ah t.objects.length (fun k (_:Unit)=>⟨[(80,.int .i64 k),(79,.int .i64 t.objects.length),(4,.ptr (4,w4) 9 0 0),(2,.ptr (2,w2) 9 0 0),(1,.int .i64 H)],
     [((2,w2),some ⟨9,[mG t (.own (1017,v) 11 0 t.arrays.length false) (.own (1019,v) 12 0 t.objects.length false)],false,true⟩),((4,w4),some ⟨9,[M.z1],false,true⟩),((1017,v),some ⟨11,t.arrays.map (cuA q),false,false⟩),((1019,v),some ⟨12,zA (cuO q) (cuF q) t.objects k,false,false⟩)]⟩) (fun _ _=>True) () trivial (by
       simp[mG,akF,aK,aIo (aMx q)]) fun k _ hk _=>?_
    have hw:=wrap64 (n:=(k:Int)+1) (by omega) (by omega)
    by_cases g4:k<t.objects.length
    ·have cR:=hR' _ (List.getElem_mem g4)
     have hl:(zA (cuO q) (cuF q) t.objects k).length=t.objects.length:=ahu
     have hx:(zA (cuO q) (cuF q) t.objects k)[k]'(by rw[hl]; exact g4)=cuF q t.objects[k]:=asg g4
     have hs:=ang (f:=cuO q) (g:=cuF q) g4
     generalize ho:t.objects[k]=o at *
     simp[g4,hl,hx,mG,cuF,ay7,← hW]
     intros
     refine aH.ret (by simpa using cR) ?_
     simp[g4,hw,hl,hx,cuF,ay7,aK]
     rw[← hs]
     exact aeR (by simp[cuO,U6])
    ·have hAll:zA (cuO q) (cuF q) t.objects k=t.objects.map (cuO q):=anG (by omega)
     rw[hAll]
     clear hAll
     simp[g4,mG]
     exact⟨fun _ _=>rfl,fun _ _=>rfl⟩
theorem aGW (NM:List S) (m:Nat) (h1:NM.length≤8589934592) (h2:m≤8589934592):∀ t:Ty,ak t=true→bdT NM m t→∀ h:Nat,Ret prog M.p8 [.agg (cT t),.int .i64 h] (.agg (cT (l5 h t))):=by
 intro t
 induction hn:SizeOf.sizeOf t using Nat.strongRecOn generalizing t with
 | _ n ih =>
   subst hn
   intro ht hb h
   obtain⟨b1,b2,b3,b4⟩:=mH.1 hb
   obtain⟨f1,f2,f3,f4,f5,f6,f7,f8⟩:=cu ht
   have hT:=aKF t (by omega) (by omega) (by omega) (by omega) (fun a ha=>Iw NM m h1 h2 _ (gY (f7 a ha)).2.2.2.1 (b3 a ha)) fun o ho=>by
    obtain⟨o1,o2,o3,o4,o5,o6⟩:=dz (f8 o ho)
    have hb':=b4 o ho
    have hnl:o.names.length≤NM.length:=zn (kG (f8 o ho)) hb'.1
    exact⟨by omega,by omega,by omega,fun f hf=>Iw NM m h1 h2 f (o5 f hf) (hb'.2.1 f hf),Iw NM m h1 h2 o.rest o4 hb'.2.2⟩
   refine aJH t h hT (fun _ a ha=>ih _ (yc ha) a.item rfl (gY (f7 a ha)).2.2.2.1 (b3 a ha) _) (fun _ o ho f hf=>ih _ (uh ho hf) f rfl ((dz (f8 o ho)).2.2.2.2.1 f hf) ((b4 o ho).2.1 f hf) _) fun _ o ho=>ih _ (uQ ho) o.rest rfl (dz (f8 o ho)).2.2.2.1 (b4 o ho).2.2 _
theorem aNc (NM:List S) (m:Nat) (h1:NM.length≤8589934592) (h2:m≤8589934592) (t:Ty) (hb' : bdT NM m t) (h:Int) :
 Ret prog M.QD [.agg (cT t),.int .i64 h] (.tup [.agg (cT (if ak t then (if h<0 then d9 else l5 h.toNat t) else d9)),.int .i64 (if ak t then (if h<0 then 2 else 0) else 1)]):=by
 refine Ret.go ah ap7 (by simp) fun hb w0 F0 hG=>?_
 have c1:=sU t
 cases g:ak t
 ·rw[g] at c1
  simp
  intros
  refine aj.ret (by simpa using c1) ?_
  simp[d9]
 ·rw[g] at c1
  by_cases g1:h<0
  ·simp[g1]
   intros
   refine aj.ret (by simpa using c1) ?_
   simp[g1,d9]
  ·have c2:=aGW NM m h1 h2 t g hb' h.toNat
   rw[show ((h.toNat:Nat):Int)=h by omega] at c2
   simp[g1]
   intros
   refine aj.ret (by simpa using c1) ?_
   simp[g1]
   refine aj.ret (by simpa using c2) ?_
   simp
end Go.Proofs.YtfilonnphgnplaaGreatDoor.Pv
set_option maxRecDepth 100000
namespace Go.Proofs.YtfilonnphgnplaaGreatDoor.Pv
open Go Go.Tidy
set_option maxHeartbeats 8000000 in
theorem aEp (t:Ty) (h:Nat) (ha1:t.arrays.length≤1) (ho1:t.objects.length≤34359738368) (hf1:∀ o∈t.objects,o.fields.length≤34359738368)
 (hA:0<h→∀ a∈t.arrays,Ret prog M.oZ [.agg (cT a.item),.int .i64 (h-1:Nat)] (.agg (cT (l5 (h-1) a.item))))
 (hF:0<h→∀ o∈t.objects,∀ f∈o.fields,Ret prog M.oZ [.agg (cT f),.int .i64 (h-1:Nat)] (.agg (cT (l5 (h-1) f))))
 (hR:0<h→∀ o∈t.objects,Ret prog M.oZ [.agg (cT o.rest),.int .i64 (h-1:Nat)] (.agg (cT (l5 (h-1) o.rest)))) :
 Ret prog M.oZ [.agg (cT t),.int .i64 h] (.agg (cT (l5 h t))):=by
 refine Ret.go ah aEH (by simp) fun hb w0 F0 hG=>?_
 simp only[fu,gQ,List.length_map,LIM,and_true] at hb
 have cE:=vv
 have hh:(h:Int)≤9223372036854775807:=hb.2.2
 cases e0:t.all
 case true =>
   rw[show l5 h t=dn by rw[aaK,e0]; rfl]
   simp[e0]
   intros
   refine aj.ret cE ?_
   simp[dn]
 by_cases g0:h=0∧(0<t.arrays.length∨0<t.objects.length)
 ·obtain⟨rfl,g0⟩:=g0
  have hne:(!t.arrays.isEmpty||!t.objects.isEmpty)=true:=by
   cases ha:t.arrays with
   | cons _ _=>rfl
   | nil =>
     cases ho:t.objects with
     | cons _ _=>rfl
     | nil=>rw[ha,ho] at g0; simp at g0
  rw[show l5 0 t=dn by rw[aaK,e0,hne]; rfl]
  by_cases hl:0<t.arrays.length
  ·simp[e0,hl]
   intros
   refine aj.ret cE ?_
   simp[dn]
  ·have hl2:0<t.objects.length:=by omega
   simp[e0,hl,hl2]
   intros
   refine aj.ret cE ?_
   simp[dn]
 have hC:l5 h t=.mk false t.null t.fls t.tru t.nums t.any t.texts (t.arrays.map (JF (h-1))) (t.objects.map (U6 (h-1))):=by
  have hc:(h == 0&&(!t.arrays.isEmpty||!t.objects.isEmpty))=false:=by
   by_cases hz:h=0
   ·rw[List.length_eq_zero_iff.1 (show t.arrays.length=0 by omega),List.length_eq_zero_iff.1 (show t.objects.length=0 by omega)]
    simp
   ·simp[hz]
  rw[aaK,e0,hc]; rfl
 rw[hC]
 clear hC
 obtain⟨H,hH⟩ : ∃ H:Int,H=h:=⟨_,rfl⟩
 obtain⟨W,hW⟩ : ∃ W:Int,W=IntKind.i64.wrap (H-1):=⟨_,rfl⟩
 have hWq:0<h→W=((h-1:Nat):Int):=fun h0=>by rw[hW,hH,wrap64 (by omega) (by omega)]; omega
 have hpos:0<t.arrays.length∨0<t.objects.length→0<h:=fun k=>by omega
 rw[← hH]
 obtain⟨q,hq⟩ : ∃ q,q=h-1:=⟨_,rfl⟩
 have hA' : ∀ a∈t.arrays,Ret prog M.oZ [.agg (cT a.item),.int .i64 W] (.agg (cT (l5 q a.item))):=fun a ha=>by
  have h0:=hpos (.inl (List.length_pos_of_mem ha))
  rw[hWq h0,hq]; exact hA h0 a ha
 have hF' : ∀ o∈t.objects,∀ f∈o.fields,Ret prog M.oZ [.agg (cT f),.int .i64 W] (.agg (cT (l5 q f))):=fun o ho f hf=>by
  have h0:=hpos (.inr (List.length_pos_of_mem ho))
  rw[hWq h0,hq]; exact hF h0 o ho f hf
 have hR' : ∀ o∈t.objects,Ret prog M.oZ [.agg (cT o.rest),.int .i64 W] (.agg (cT (l5 q o.rest))):=fun o ho=>by
  have h0:=hpos (.inr (List.length_pos_of_mem ho))
  rw[hWq h0,hq]; exact hR h0 o ho
 rw[← hq]
 have hcase:((H=0)=True∧((0:Int)<(t.arrays.length:Int))=False∧((0:Int)<(t.objects.length:Int))=False)∨((H=0)=False∧True∧True):=by
  by_cases hz:h=0
  ·exact .inl ⟨eq_true (by omega),eq_false (by omega),eq_false (by omega)⟩
  ·exact .inr ⟨eq_false (by omega),trivial,trivial⟩
 clear hA hF hR hWq hpos
 rcases hcase with ⟨gd,hs,hs'⟩|⟨gd,hs,hs'⟩
 all_goals
   try simp only[Int.natCast_pos] at hs hs'
   simp[e0,gd,hs,hs']
   intro w2 w4 w5
   obtain⟨J,hJ⟩ : ∃ J:Nat→List Arr→Prop,J=fun k acc=>acc=(t.arrays.take k).map (JF q):=⟨_,rfl⟩
   refine aU.xG ah [(8000005,11,1008)] rfl t.arrays.length (fun v k (acc:List Arr)=>⟨[(6,.int .i64 k),(5,.ptr (5,w5) 9 0 0),(4,.ptr (4,w4) 9 0 0),(2,.ptr (2,w2) 9 0 0),(1,.int .i64 H)],[((5,w5),some ⟨9,[mG t (.own (1008,v) 11 0 acc.length false) (.vec 12 true [])],false,true⟩),((1008,v),some ⟨11,acc.map dh,false,false⟩),((4,w4),some ⟨9,[M.z1],false,true⟩),((2,w2),some ⟨9,[cT t],false,true⟩)]⟩) J [] (by rw[hJ]; rfl) (by simp[mG]) fun v k acc _ hk hj=>?_
   have hw:=wrap64 (n:=(k:Int)+1) (by omega) (by omega)
   have hj' : acc=(t.arrays.take k).map (JF q):=by rw[hJ] at hj; exact hj
   have hal:acc.length=k:=by rw[hj']; simp; omega
   by_cases g:k<t.arrays.length
   ·have hst:=qd (JF q) g
    rw[← hj'] at hst
    simp[g,← hW,mG]
    intros
    refine aH.ret (hA' _ (List.getElem_mem g)) ?_
    simp[g,hw]
    exact⟨by omega,acc++[JF q t.arrays[k]],by rw[hJ]; exact hst.symm,fun _=>by simp[JF]; exact aK _ _⟩
   have e1:acc=t.arrays.map (JF q):=by rw[hj',List.take_of_length_le (by omega)]
   rw[e1]
   simp[g,mG]
   obtain⟨J2,hJ2⟩ : ∃ J:Nat→List Ob→Prop,J=fun k acc=>acc=(t.objects.take k).map (U6 q):=⟨_,rfl⟩
   refine aU.xG ah [(9000005,12,1009)] rfl t.objects.length (fun v k (acc:List Ob)=>⟨[(7,.int .i64 k),(5,.ptr (5,w5) 9 0 0),(4,.ptr (4,w4) 9 0 0),(2,.ptr (2,w2) 9 0 0),(1,.int .i64 H)],[((5,w5),some ⟨9,[mG t (.vec 11 false ((t.arrays.map (JF q)).map dh)) (.own (1009,v) 12 0 acc.length false)],false,true⟩),((1009,v),some ⟨12,acc.map av,false,false⟩),((4,w4),some ⟨9,[M.z1],false,true⟩),((2,w2),some ⟨9,[cT t],false,true⟩)]⟩) J2 [] (by rw[hJ2]; rfl) (by simp[mG]) fun v i acc2 _ hi hj2=>?_
   have hwi:=wrap64 (n:=(i:Int)+1) (by omega) (by omega)
   have hj2' : acc2=(t.objects.take i).map (U6 q):=by rw[hJ2] at hj2; exact hj2
   have hal2:acc2.length=i:=by rw[hj2']; simp; omega
   by_cases g2:i<t.objects.length
   ·have hst2:=qd (U6 q) g2
    rw[← hj2'] at hst2
    have cR:=hR' _ (List.getElem_mem g2)
    have cF:=hF' _ (List.getElem_mem g2)
    have hfl:=hf1 _ (List.getElem_mem g2)
    generalize ho:t.objects[i]=o at *
    simp[g2,ho,← hW,mG]
    intro _
    refine aH.ret (by first|exact cR|(simpa using cR)) ?_
    simp[g2,ho]
    rename_i w8
    obtain⟨J3,hJ3⟩ : ∃ J:Nat→List Ty→Prop,J=fun k acc=>acc=(o.fields.take k).map (l5 q):=⟨_,rfl⟩
    refine aU.xG ah [(2000008,9,1010),(9000005,12,1011)] rfl o.fields.length (fun v k (acc:List Ty)=>⟨[(9,.int .i64 k),(8,.ptr (8,w8) 12 0 0),(7,.int .i64 i),(5,.ptr (5,w5) 9 0 0),(4,.ptr (4,w4) 9 0 0),(2,.ptr (2,w2) 9 0 0),(1,.int .i64 H)],[((8,w8),some ⟨12,[.vec 1 false (o.names.map encStr)::.own (1010,v) 9 0 acc.length false::.vec 1 false (o.must.map jH)::cT (l5 q o.rest)],false,true⟩),((1010,v),some ⟨9,acc.map eU,false,false⟩),((5,w5),some ⟨9,[mG t (.vec 11 false ((t.arrays.map (JF q)).map dh)) (.own (1011,v) 12 0 acc2.length false)],false,true⟩),((1011,v),some ⟨12,acc2.map av,false,false⟩),((4,w4),some ⟨9,[M.z1],false,true⟩),((2,w2),some ⟨9,[cT t],false,true⟩)]⟩) J3 [] (by rw[hJ3]; rfl) (by simp[mG]) fun v3 j acc3 _ hj3 hjj3=>?_
    have hwj:=wrap64 (n:=(j:Int)+1) (by omega) (by omega)
    have hj3' : acc3=(o.fields.take j).map (l5 q):=by rw[hJ3] at hjj3; exact hjj3
    have hal3:acc3.length=j:=by rw[hj3']; simp; omega
    by_cases g3:j<o.fields.length
    ·have hst3:=qd (l5 q) g3
     rw[← hj3'] at hst3
     simp[g2,ho,g3,← hW,mG]
     intros
     refine aH.ret (cF _ (List.getElem_mem g3)) ?_
     simp[g2,ho,g3,hwj]
     refine⟨by omega,acc3++[l5 q o.fields[j]],by rw[hJ3]; exact hst3.symm,fun _=>⟨by simp,?_⟩⟩
     simp
     first|done|exact aK _ _
    ·have e3:acc3=o.fields.map (l5 q):=by rw[hj3',List.take_of_length_le (by omega)]
     rw[e3]
     simp[g2,ho,g3,mG,hwi]
     refine fun _=>⟨by omega,acc2++[U6 q o],by rw[hJ2]; exact hst2.symm,fun _=>⟨by simp,?_⟩⟩
     rw[List.map_append,List.map_cons,List.map_nil,qM]
     show leR _ _ (acc2.map av++[.vec 1 false (o.names.map encStr)::.vec 9 false ((o.fields.map (l5 q)).map eU)::.vec 1 false (o.must.map jH)::cT (l5 q o.rest)])
     rw[List.map_map]
     exact aK _ _
   ·have e2:acc2=t.objects.map (U6 q):=by rw[hj2',List.take_of_length_le (by omega)]
    rw[e2]
    simp[g2,mG]
theorem aDx (NM:List S) (m:Nat) (h1:NM.length≤8589934592) (h2:m≤8589934592):∀ t:Ty,ak t=true→bdT NM m t→∀ h:Nat,Ret prog M.oZ [.agg (cT t),.int .i64 h] (.agg (cT (l5 h t))):=by
 intro t
 induction hn:SizeOf.sizeOf t using Nat.strongRecOn generalizing t with
 | _ n ih =>
   subst hn
   intro ht hb h
   obtain⟨b1,b2,b3,b4⟩:=mH.1 hb
   obtain⟨f1,f2,f3,f4,f5,f6,f7,f8⟩:=cu ht
   refine aEp t h f6 (by omega) (fun o ho=>?_) (fun _ a ha=>ih _ (yc ha) a.item rfl (gY (f7 a ha)).2.2.2.1 (b3 a ha) _) (fun _ o ho f hf=>ih _ (uh ho hf) f rfl ((dz (f8 o ho)).2.2.2.2.1 f hf) ((b4 o ho).2.1 f hf) _) fun _ o ho=>ih _ (uQ ho) o.rest rfl (dz (f8 o ho)).2.2.2.1 (b4 o ho).2.2 _
   have:=zn (kG (f8 o ho)) (b4 o ho).1
   have:=(dz (f8 o ho)).1
   omega
theorem aEE (NM:List S) (m:Nat) (h1:NM.length≤8589934592) (h2:m≤8589934592) (t:Ty) (hb' : bdT NM m t) (h:Int) :
 Ret prog M.af4 [.agg (cT t),.int .i64 h] (.tup [.agg (cT (if ak t then (if h<0 then d9 else l5 h.toNat t) else d9)),.int .i64 (if ak t then (if h<0 then 2 else 0) else 1)]):=by
 refine Ret.go ah aDo (by simp) fun hb w0 F0 hG=>?_
 have c1:=zm t
 cases g:ak t
 ·rw[g] at c1
  simp
  intros
  refine aj.ret (by simpa using c1) ?_
  simp[d9]
 ·rw[g] at c1
  by_cases g1:h<0
  ·simp
   intros
   refine aj.ret (by simpa using c1) ?_
   simp[g1,d9]
  ·have c2:=aDx NM m h1 h2 t g hb' h.toNat
   rw[show ((h.toNat:Nat):Int)=h by omega] at c2
   simp
   intros
   refine aj.ret (by simpa using c1) ?_
   simp[g1]
   refine aj.ret (by simpa using c2) ?_
   simp
end Go.Proofs.YtfilonnphgnplaaGreatDoor.Pv
set_option maxRecDepth 100000
namespace Go.Proofs.YtfilonnphgnplaaGreatDoor.Pv
open Go Go.Tidy
structure Op where
 call:Int
 a:Ty
 b:Ty
 height:Int
abbrev cOp (o:Op):List PV:=tq o.call o.a o.b o.height
set_option maxHeartbeats 8000000 in
theorem aJz (t b:Ty) (h:Int) (hf:NI t=true):Ret prog M.qP [.agg (tq 2 t b h)] (.bool true):=by
 obtain⟨h1,h2,h3⟩:=asn hf
 have c1:=aNc (ahi t) (szT t) (by omega) (by omega) t h3 h
 have c2:=aEE (ahi t) (szT t) (by omega) (by omega) t h3 h
 generalize (if ak t then (if h<0 then d9 else l5 h.toNat t) else d9)=r at *
 generalize (if ak t then (if h<0 then (2:Int) else 0) else 1)=e at *
 have c3:=GY r r
 rw[jr rfl] at c3
 refine Ret.go ah Bg (by simp[tq]) fun hb w0 F0 hG=>?_
 simp[tq]
 intros
 refine aj.ret (by first|exact c1|(simpa using c1)) ?_
 simp
 intros
 refine aj.ret (by first|exact c2|(simpa using c2)) ?_
 simp
 intros
 refine aj.ret (by first|exact c3|(simpa using c3)) ?_
 simp
set_option maxHeartbeats 8000000 in
theorem aKC (a b:Ty) (h:Int) (hfa:NI a=true) (hfb:NI b=true):Ret prog M.qP [.agg (tq 3 a b h)] (.bool true):=by
 obtain⟨f1,f2,f3⟩:=aAy hfa hfb
 have c1:=aKL a b (wO a++wO b) 20000 (by omega) (by omega) f2 f3
 have d1:=zm a
 have d2:=zm b
 have c0:=GY d9 d9
 rw[jr rfl] at c0
 refine Ret.go ah Bg (by simp[tq]) fun hb w0 F0 hG=>?_
 cases ga:ak a
 ·rw[ga] at c1 d1
  simp[tq]
  intros
  refine aj.ret (by first|exact c1|(simpa using c1)) ?_
  simp
  intros
  refine aj.ret (by first|exact d1|(simpa using d1)) ?_
  simp
  refine aj.ret (by first|exact c0|(simpa[d9] using c0)) ?_
  simp
 cases gb:ak b
 ·rw[ga,gb] at c1
  rw[ga] at d1
  rw[gb] at d2
  simp[tq]
  intros
  refine aj.ret (by first|exact c1|(simpa using c1)) ?_
  simp
  intros
  refine aj.ret (by first|exact d1|(simpa using d1)) ?_
  simp
  refine aj.ret (by first|exact d2|(simpa using d2)) ?_
  simp
  refine aj.ret (by first|exact c0|(simpa[d9] using c0)) ?_
  simp
 rw[ga,gb] at c1
 rw[ga] at d1
 rw[gb] at d2
 have c2:=afT (wO a++wO b) (ay a) a b 20000 20000 (Nat.le_refl _) ga gb f2 f3 (by omega)
 have c3:=GY (jO a b) (jO a b)
 rw[jr rfl] at c3
 generalize jO a b=r at *
 simp[tq]
 intros
 refine aj.ret (by first|exact c1|(simpa using c1)) ?_
 simp
 intros
 refine aj.ret (by first|exact d1|(simpa using d1)) ?_
 simp
 refine aj.ret (by first|exact d2|(simpa using d2)) ?_
 simp
 intros
 refine aH.ret (by first|exact c2|(simpa using c2)) ?_
 simp
 refine aH.ret (by first|exact c3|(simpa using c3)) ?_
 simp
def ac1:Ob:=.mk [] [] [] d9
theorem aMR:Ret prog M.Jm [.vec 12 false []] (.tup [.agg (cO ac1),.int .i64 2]):=by
 refine Ret.go ah ahv (by simp) fun hb w0 F0 hG=>?_
 simp[ac1,d9]
theorem aJW (l:List Ob) (hne:l≠[]) (hf:(l.all fun o=>ak (eu o))=false):Ret prog M.Jm [.vec 12 false (l.map av)] (.tup [.agg (cO ac1),.int .i64 1]):=by
 have hl0:0<l.length:=List.length_pos_iff.2 hne
 refine Ret.go ah ahv (by simp) fun hb w0 F0 hG=>?_
 simp only[fu,gQ,List.length_map,LIM,and_true] at hb
 have g0:¬ (l.length:Int)=0:=by omega
 simp[g0,hne]
 intro v2
 obtain⟨J,hJ⟩ : ∃ J:Nat→Unit→Prop,J=fun k _=>iG (fun o=>ak (eu o)) l k:=⟨_,rfl⟩
 refine aU.xG ah [] rfl l.length (fun v k (_:Unit)=>⟨[(12,.int .i64 k),(11,.int .i64 l.length),(10,.vec 12 false (l.map av)),(3,.int .i64 0),(2,.ptr (2,v2) 12 0 0),(0,.vec 12 false (l.map av))],[((2,v2),some ⟨12,[M.z4],false,true⟩)]⟩) J () (by rw[hJ]; exact .zero) (fun v=>by simp) fun v k _ _ hk hj=>?_
 have hw:=wrap64 (n:=(k:Int)+1) (by omega) (by omega)
 have hj' : iG (fun o=>ak (eu o)) l k:=by rw[hJ] at hj; exact hj
 by_cases g:k<l.length
 ·have d1:=uy l[k]
  have d2:=sU (eu l[k])
  cases e1:ak (eu l[k])
  ·rw[e1] at d2
   generalize eo:l[k]=o at *
   simp[g,eo]
   intro v3
   refine aj.ret (by simpa using d1) ?_
   simp[g,eo]
   refine aj.ret (by simpa using d2) ?_
   simp[g,ac1,d9]
  ·have hJn:J (k+1) ():=by rw[hJ]; exact hj'.step g e1
   rw[e1] at d2
   generalize eo:l[k]=o at *
   simp[g,eo]
   intro v3
   refine aj.ret (by simpa using d1) ?_
   simp[g,eo]
   refine aj.ret (by simpa using d2) ?_
   simp[g,hw]
   exact⟨(),hJn⟩
 ·rw[hj'.all g] at hf
  cases hf
set_option maxHeartbeats 8000000 in
theorem aJD (hL:Bf) (c:Int) (hc:¬ c=0∧¬ c=1∧¬ c=2∧¬ c=3) (a b:Ty) (h:Int) (hfa:NI a=true) (hfb:NI b=true):Ret prog M.qP [.agg (tq c a b h)] (.bool true):=by
 obtain⟨f1,f2,f3⟩:=aAy hfa hfb
 obtain⟨hc0,hc1,hc2,hc3⟩:=hc
 have hal:=(mH.1 f2).2.1
 have hbl:=(mH.1 f3).2.1
 have cO:=azE a b (by omega)
 have hbd:∀ o∈a.objects++b.objects,bdO (wO a++wO b) 20000 o:=fun o ho=>by
  rcases List.mem_append.1 ho with k|k
  ·exact (mH.1 f2).2.2.2 o k
  ·exact (mH.1 f3).2.2.2 o k
 have hlen:(a.objects++b.objects).length≤40000:=by rw[List.length_append]; omega
 generalize a.objects++b.objects=l at *
 have z0:=GY (eu ac1) (eu ac1)
 rw[jr rfl] at z0
 have z1:=yG ac1
 refine Ret.go ah Bg (by simp[tq]) fun hb w0 F0 hG=>?_
 by_cases g4:l=[]
 ·have k1:=aMR
  subst g4
  simp[tq,hc0,hc1,hc2,hc3]
  intros
  refine aj.ret (by first|exact cO|(simpa using cO)) ?_
  simp
  refine aj.ret (by first|exact k1|(simpa using k1)) ?_
  simp
  intros
  refine aj.ret (by first|exact z1|(simpa using z1)) ?_
  simp
  intros
  refine aj.ret (by first|exact z0|(simpa[cT,Pv.cO,eu,ac1,d9] using z0)) ?_
  simp
 have g4' : ¬ (l.length:Int)=0:=by have:=List.length_pos_iff.2 g4; omega
 have cF:=al0 l
 cases g2:(l.all fun o=>ak (eu o))
 ·have k1:=aJW l g4 g2
  rw[g2] at cF
  simp[tq,hc0,hc1,hc2,hc3]
  intros
  refine aj.ret (by first|exact cO|(simpa using cO)) ?_
  simp
  refine aj.ret (by first|exact k1|(simpa using k1)) ?_
  simp[g4,g4']
  intros
  refine aj.ret (by first|exact cF|(simpa using cF)) ?_
  simp
  refine aj.ret (by first|exact z1|(simpa using z1)) ?_
  simp
  intros
  refine aj.ret (by first|exact z0|(simpa[cT,Pv.cO,eu,ac1,d9] using z0)) ?_
  simp
 have hf:∀ o∈l,bf o=true:=fun o ho=>aCy.1 (List.all_eq_true.1 g2 o ho)
 rw[g2] at cF
 have k1:=aKQ hL (wO a++wO b) 20000 l g4 hf hbd (by omega) (by omega) (by omega)
 have k2:=amD (wO a++wO b) 20000 l hf hbd (by omega) (by omega) (by omega)
 have k3:=yG (pq l)
 have k4:=GY (eu (pq l)) (eu (pq l))
 rw[jr rfl] at k4
 generalize pq l=r at *
 simp[tq,hc0,hc1,hc2,hc3]
 intros
 refine aj.ret (by first|exact cO|(simpa using cO)) ?_
 simp
 refine aj.ret (by first|exact k1|(simpa using k1)) ?_
 simp[g4,g4']
 intros
 refine aj.ret (by first|exact cF|(simpa using cF)) ?_
 simp
 refine aj.ret (by first|exact k3|(simpa using k3)) ?_
 simp
 refine aj.ret (by first|exact k2|(simpa using k2)) ?_
 simp
 refine aj.ret (by first|exact k3|(simpa using k3)) ?_
 simp
 refine aj.ret (by first|exact k4|(simpa using k4)) ?_
 simp
theorem aDi (hL:Bf) (o:Op) (h:arx o.a o.b=true):Ret prog M.qP [.agg (cOp o)] (.bool true):=by
 unfold arx at h
 simp only[Bool.and_eq_true] at h
 obtain⟨c,a,b,ht⟩:=o
 by_cases h0:c=0
 ·subst h0; exact aJt hL a b ht h.1.1.1
 by_cases h1:c=1
 ·subst h1; exact aJg hL a b ht h.1.1.1
 by_cases h2:c=2
 ·subst h2; exact aJz a b ht h.1.1.1
 by_cases h3:c=3
 ·subst h3; exact aKC a b ht h.1.1.1 h.1.1.2
 exact aJD hL c ⟨h0,h1,h2,h3⟩ a b ht h.1.1.1 h.1.1.2
set_option maxHeartbeats 4000000 in
theorem ajb (hL:Bf) (l:List Op):Ret prog M.L9 [.vec 20 false (l.map cOp)] (.bool true):=by
 refine Ret.go ah ajn (by simp) fun hb w0 F0 hG=>?_
 simp only[fu,gQ,List.length_map,LIM,and_true] at hb
 have c0:=awv hL
 simp
 refine aj.ret (by first|exact c0|(simp; exact c0)) ?_
 simp
 refine aU.cnt ah l.length (fun k (_:Unit)=>⟨[(3,.int .i64 k),(2,.bool false),(0,.vec 20 false (l.map cOp))],[]⟩) (fun _ _=>True) () trivial (by simp) fun k _ hk _=>?_
 have hw:=wrap64 (n:=(k:Int)+1) (by omega) (by omega)
 by_cases q1:k<l.length
 ·have c1:=aB3 l[k].a l[k].b
  have c2:=aDi hL l[k]
  generalize hok:l[k]=o at *
  cases g:arx o.a o.b
  ·rw[g] at c1
   simp[q1,hok,tq]
   intros
   refine aH.ret (by first|exact c1|(simpa using c1)) ?_
   simp[q1,hw]
  ·rw[g] at c1
   have c2:=c2 g
   simp[q1,hok,tq]
   intros
   refine aH.ret (by first|exact c1|(simpa using c1)) ?_
   simp[q1,hok,tq]
   refine aH.ret (by first|exact c2|(simpa[tq] using c2)) ?_
   simp[q1,hw]
 ·simp[q1]
end Go.Proofs.YtfilonnphgnplaaGreatDoor.Pv
namespace Go.Proofs.YtfilonnphgnplaaGreatDoor.Pv
open Go Go.Tidy
theorem apE (x0:List Op):Ret prog M.L9 [.vec 20 false (x0.map cOp)] (.bool true):=ajb aNk x0
end Go.Proofs.YtfilonnphgnplaaGreatDoor.Pv

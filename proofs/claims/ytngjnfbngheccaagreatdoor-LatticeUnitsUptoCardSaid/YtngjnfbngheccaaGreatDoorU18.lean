/- Part 18. -/
import Derived.Test.YtngjnfbngheccaaGreatDoorProg
import Derived.WalkKit
import Derived.Deep.LoopGhost
import Derived.Deep.RegionLaw
import Derived.Shelf.RegionOpenPlain
import Derived.Lib.Walk
import Derived.Sort.WalkB12
import Derived.Lib.SliceRun
import Derived.Deep.MidRow
import Derived.Test.YtngjnfbngheccaaGreatDoorU17
import Derived.Scope
set_option linter.unusedSimpArgs false
set_option linter.unusedVariables false
namespace Go.Proofs.YtngjnfbngheccaaGreatDoor
open Go Go.RowKit Go.Shelf Go.Lib
def aJq (P:Program) (t:TypeId):Bool:=match P.info? t with
 | some i=>i.size == 12&&(match i.zero with|some z=>z.cells.size == 12&&z.cells.toList.all (·.oneCell')|none=>false)
 | none=>false
theorem aII {P:Program} {t:TypeId} (h:aJq P t=true):∃ i z,P.info? t=some i∧i.size=12∧i.zero=some z∧z.cells.size=12∧∀ u∈z.cells.toList,u.oneCell'=true:=by
 unfold aJq at h
 split at h
 ·rename_i i hi
  simp only[Bool.and_eq_true,beq_iff_eq] at h
  obtain⟨h1,h2⟩:=h
  split at h2
  ·rename_i z hz
   simp only[Bool.and_eq_true,beq_iff_eq,List.all_eq_true] at h2
   exact⟨i,z,hi,h1,hz,h2.1,h2.2⟩
  ·cases h2
 ·cases h
theorem aAf {P:Program} (w:World) (t e ty:TypeId) (i:TypeInfo) (z:Value) (ht:P.underlying t=some (.slice e)) (hi:P.info? e=some i) (hz:i.zero=some z) (hs:z.cells.size=12) (h1:∀ u∈z.cells.toList,u.oneCell'=true) (b o c:Nat)
 (hc:∀ j,j<12→(w.cell? ⟨b,o+j,none⟩).isSome=true) (hf:∀ j,j<12→w.frozen? ⟨b,o+j,none⟩=false) :
 (Builtin.clear_ #[t] ty #[.slice (some ⟨b,o,none⟩) 1 c]).run P w=.ok (.tuple #[]) (w.setCells b o (Builtin.zeroCells z.cells 1).toList):=by
 have hzl:(Builtin.zeroCells z.cells 1).toList.length=12:=by simp[Builtin.zeroCells,hs]
 have hst:=run_storeCells_cells (P:=P) b o (Builtin.zeroCells z.cells 1).toList 0 w (by rw[hzl]; simpa using hc) (by rw[hzl]; simpa using hf) (by
  intro v hv
  simp only[Builtin.zeroCells,Array.toList_map,List.mem_map] at hv
  obtain⟨j,hj,rfl⟩:=hv
  have hj' : j<12:=by simpa[hs] using hj
  have:j % z.cells.size<z.cells.size:=Nat.mod_lt _ (by omega)
  rw[getElem!_pos z.cells _ this]
  exact h1 _ (by simp))
 simp only[Nat.add_zero] at hst
 simp[Builtin.clear_,run_underlying ht,zeroValue,typeInfo,hi,hz,hst]
theorem t28:Tryz.prog.underlying 25=some (.slice 70):=by kernel_rfl
theorem aRb:aJq Tryz.prog 70=true:=by kernel_rfl
theorem aQ7:Tryz.prog.follows .mixedOrders=true:=by kernel_rfl
set_option maxHeartbeats 4000000 in
set_option maxRecDepth 1000000 in
theorem aK3 (blk off cap n i j:Nat) (news:List Value) (w:World) (hj:j=i+1) (hi:i<n) (hcap:n≤cap) (hm:cap≤9223372036854775807) (hnl:news.length=(n-j)*12) (hn1:∀ u∈news,u.oneCell'=true)
 (hsrc:∀ (k:Nat) (u:Value),news[k]? = some u→w.cell? ⟨blk,off+j*12+k,none⟩=some u) (hroom:∀ k,k<n*12→(w.cell? ⟨blk,off+k,none⟩).isSome=true∧w.frozen? ⟨blk,off+k,none⟩=false) :
 Calls Tryz.prog 231 #[.slice (some ⟨blk,off,none⟩) n cap,.int .i64 i,.int .i64 j] w fun e w'=>e=.returned (.slice (some ⟨blk,off,none⟩) (i+(n-j)) cap)∧∃ zs,w'=(w.drew.setCells blk (off+i*12) news).setCells blk (off+(i+(n-j))*12) zs:=by
 have mixed:=aQ7
 have hic:i≤cap:=by omega
 have hjc:j≤cap:=by omega
 have hne:¬ i=j:=by omega
 have hij:i≤j:=by omega
 have hjn:j≤n:=by omega
 obtain⟨i0,z0,hi0,hz1,hz2,hz3,hz4⟩:=aII aRb
 have t28:=t28
 obtain⟨A,hA,hs⟩ : ∃ A:Addr,(if cap=j then some (⟨blk,off,none⟩ : Addr) else some ⟨blk,off+j*12,none⟩)=some A∧Hid (∀ t u,news[t]? = some u→w.drew.cell? (A.add t)=some u):=by
  by_cases h:cap=j
  ·refine⟨⟨blk,off,none⟩,by simp[h],fun t u hu=>?_⟩
   have h0:news.length=0:=by rw[hnl,show n-j=0 by omega]
   rw[List.length_eq_zero_iff.1 h0] at hu
   simp at hu
  ·refine⟨⟨blk,off+j*12,none⟩,by simp[h],fun t u hu=>?_⟩
   rw[Addr.add_lit]
   exact hsrc t u hu
 have s1:Hid (news.length=(n-j)*12):=hnl
 have s2:Hid (∀ u∈news,u.oneCell'=true):=hn1
 have s3:Hid (∀ t,t<news.length→(w.drew.cell? ⟨blk,off+i*12+t,none⟩).isSome=true∧w.drew.frozen? ⟨blk,off+i*12+t,none⟩=false):=fun t ht=>by
  rw[hnl] at ht
  have:=hroom (i*12+t) (by omega)
  rw[← Nat.add_assoc] at this
  exact this
 obtain⟨W1,hW1⟩ : ∃ W1,W1=w.drew.setCells blk (off+i*12) news:=⟨_,rfl⟩
 have hcells:∀ k,k<n*12→(W1.cell? ⟨blk,off+k,none⟩).isSome=true∧W1.frozen? ⟨blk,off+k,none⟩=false:=fun k hk=>by
  have h0:=hroom k hk
  rw[hW1]
  refine⟨World.isSome_setCells _ _ _ _ _ h0.1,?_⟩
  rw[World.frozen?_setCells]; exact h0.2
 have hone:n-(i+(n-j))=1:=by omega
 have hcl:∀ ty c,(Builtin.clear_ #[25] ty #[.slice (some ⟨blk,off+(i+(n-j))*12,none⟩) (n-(i+(n-j))) c]).run Tryz.prog W1=.ok (.tuple #[]) (W1.setCells blk (off+(i+(n-j))*12) (Builtin.zeroCells z0.cells 1).toList):=by
  rw[hone]
  exact fun ty c=>aAf W1 25 70 ty i0 z0 t28 hi0 hz2 hz3 hz4 _ _ _
   (fun k hk=>by have:=(hcells ((i+(n-j))*12+k) (by omega)).1; rwa [← Nat.add_assoc] at this)
   (fun k hk=>by have:=(hcells ((i+(n-j))*12+k) (by omega)).2; rwa [← Nat.add_assoc] at this)
 generalize (Builtin.zeroCells z0.cells 1).toList=zs at hcl
 have hW:Hid (W1=w.drew.setCells blk (off+i*12) news):=hW1
 have hle:i+(n-j)≤n:=by omega
 have hlt:i+(n-j)<cap:=by omega
 have hj' : Hid (j=i+1):=hj
 clear hW1 hnl hn1 hsrc hroom hcells hj hone hz2 hz3 hz4
 go_enter Tryz.func231,Tryz.ntmps231
 go_wp2_with fail
 go_region_law_o (refine step_append_room rfl (.tmp 22) (.tmp 25) 25 rfl 70 i0 12 t28 hi0 hz1 blk off i cap (by simp[Act.eval,Act.put]) A (n-j) (cap-j) news (by simp[Act.eval,Act.put]) s1.out hs.out s2.out (by omega) s3.out ?_; rw[← hW.out])
 go_wp2
 go_ret
 exact⟨rfl,zs,by rw[hW.out]⟩
end Go.Proofs.YtngjnfbngheccaaGreatDoor
namespace Go.Proofs.YtngjnfbngheccaaGreatDoor.Pv
open Go Go.Tidy Go.Maps Go.RowKit
theorem aNJ (m:Nat):AnyZ.SortsIn Tryz.prog Tryz.arS Fence.wide m :=
 ⟨fun blk off cap ss W hH hblk hsz=>callsIn_wide.2 (AnyM.slices_Sort_string Tryz.aDb blk off cap ss W hH hblk hsz),
  fun p cap W=>callsIn_wide.2 (AnyM.slices_Sort_string_none Tryz.aDb p cap W)⟩
theorem aN0:agz prog 175 9 3 M.Vo M.ze:=by
 refine⟨by kernel_rfl,by kernel_rfl,⟨by kernel_rfl,by kernel_rfl,by kernel_rfl⟩,fun w b n es hown hlen=>?_⟩
 have hsz:Maps.size (.map es:DataW Unit)≤34359738368:=hlen
 have hbl:=hown.lt
 have cK:CallsIn Fence.wide 5 Tryz.prog 185 #[.map (some b)] w fun e w'=>e=.returned (.func (.func 219) #[] #[.pointer (some ⟨w.heap.size,0,none⟩)])∧w'=w.alloc (.cells #[.map (some b)] 175):=AnyZ.keys_in Tryz.aNO Fence.wide 5 trivial rfl (some b) w
 refine Calls.mono ((callsIn_wide (n:=5)).1 cK) ?_
 rintro e w' ⟨rfl,rfl⟩
 refine⟨_,rfl,(Below.refl _ w).alloc (Nat.le_refl _) _,?_⟩
 have hseq:SeqGives Fence.wide 2 Tryz.prog 219 #[.pointer (some ⟨w.heap.size,0,none⟩)] Go.Proofs.encStr (fun ss=>ss.Perm (strKeys (.map es:DataW Unit))) (Maps.size (.map es:DataW Unit)) (w.alloc (.cells #[.map (some b)] 175)) :=
  AnyZ.keys_gives (ρ:=Tryz.azY) { Tryz.aNO with } Fence.wide _ trivial rfl (by omega) w.heap.size b n (.map es) _ (by simp) (by simp) (by
   obtain⟨es',clock,hb,Ft,hs,hD⟩:=hown
   exact⟨es',clock,(Below.heap_alloc _ _ b hbl).trans hb,Ft,hs,hD⟩)
 have cS:=AnyZ.sorted_in Tryz.aN7 Fence.wide 5 trivial trivial trivial trivial rfl (by omega) (aNJ _) (enters_of Tryz.func123 (by kernel_rfl) rfl) 219 #[.pointer (some ⟨w.heap.size,0,none⟩)] trivial (enters_of Tryz.func219 (by kernel_rfl) rfl) _ _ (by unfold maxLen; omega) (by omega) _ hseq
 change CallsIn _ _ Tryz.prog 184 _ _ _ at cS
 refine Calls.mono ((callsIn_wide (n:=5)).1 cS) ?_
 rintro e w' ⟨v,ss,rfl,hS,hrow,hnil,hb⟩
 exact⟨v,ss,rfl,hS,hrow,hb⟩
theorem aQv:alR:=⟨⟨9,3,aN0⟩,⟨by kernel_rfl,fun blk off cap n i j news w a b c d e f g h=>aK3 blk off cap n i j news w a b c d e f g h⟩⟩
end Go.Proofs.YtngjnfbngheccaaGreatDoor.Pv
namespace Go.Proofs.YtngjnfbngheccaaGreatDoor.Pv
open Go Go.Tidy
theorem aaJ (t:Ty) (ht:aj t=true) (hT:Ret prog M.y9 [.agg (cT t)] (.tup [.agg (cT (if aj t then l9 t else aV)),.int .i64 (if aj t then 0 else 1)])):Ret prog M.ko [.agg (cT t)] (.agg (cT (l9 t))):=by
 rw[ht] at hT
 simp only[if_true] at hT
 refine Ret.go ah ahR (by simp) fun hb w0 F0 hG=>?_
 generalize l9 t=R at *
 simp
 intros
 refine ak.ret hT ?_
 simp
theorem ay1 (a b:Ty) (ha:aj a=true) (hb' : aj b=true) (hS:Ret prog M.JF [.agg (cT a),.agg (cT b)] (.tup [.agg (cT (if aj a&&aj b then jf a b else aV)),.int .i64 (if aj a&&aj b then 0 else 1)]))
 (hT:Ret prog M.y9 [.agg (cT (jf a b))] (.tup [.agg (cT (if aj (jf a b) then l9 (jf a b) else aV)),.int .i64 (if aj (jf a b) then 0 else 1)])):Ret prog M.uZ [.agg (cT a),.agg (cT b)] (.agg (cT (l9 (jf a b)))):=by
 rw[ha,hb'] at hS
 simp only[Bool.and_self,if_true] at hS
 have c2:=aaJ _ (ZM a b ha hb') hT
 refine Ret.go ah akC (by simp) fun hb w0 F0 hG=>?_
 generalize l9 (jf a b)=R at *
 generalize jf a b=z at *
 simp
 intros
 refine ak.ret hS ?_
 simp
 intros
 refine ak.ret (r:=.agg (cT R)) (by first|exact c2|(simpa using c2)) ?_
 simp
theorem ahP (l:List Ty) (fl:Bool):Ret prog M.l6 [.vec 9 fl (l.map fq)] (.bool (l.all aj)):=by
 refine Ret.go ah ahQ (by simp) fun hb w0 F0 hG=>?_
 simp only[ig,jh,List.length_map,LIM,and_true] at hb
 generalize hB:l.all aj=B
 obtain⟨J,hJ⟩ : ∃ J:Nat→Unit→Prop,J=fun k _=>iy aj l k:=⟨_,rfl⟩
 simp
 refine aU.cnt ah l.length (fun k _=>⟨[(7,.int .i64 k),(6,.int .i64 l.length),(5,.vec 9 fl (l.map fq)),(2,.bool false),(0,.vec 9 fl (l.map fq))],[]⟩) J () (by rw[hJ]; exact .zero) (by simp) fun k _ hk hj=>?_
 have hw:=wrap64 (n:=(k:Int)+1) (by omega) (by omega)
 have hj' : iy aj l k:=by rw[hJ] at hj; exact hj
 by_cases q1:k<l.length
 ·have c2:=Y7 l[k]
  cases e1:aj l[k]
  ·have hBf:B=false:=by rw[← hB,List.all_eq_false]; exact⟨l[k],List.getElem_mem q1,by simp[e1]⟩
   rw[e1] at c2
   simp[q1]
   intros
   refine ak.ret (by simpa using c2) ?_
   simp[hBf]
  ·have hJn:J (k+1) ():=by rw[hJ]; exact hj'.step q1 e1
   rw[e1] at c2
   simp[q1]
   intros
   refine ak.ret (by simpa using c2) ?_
   simp[q1,hw]
   exact⟨(),hJn⟩
 ·have hBt:B=true:=by rw[← hB]; exact hj'.all q1
  simp[q1,hBt]
theorem axX (a b:Ty) (hJ:aj a=true→aj b=true→Ret prog M.uZ [.agg (cT a),.agg (cT b)] (.agg (cT (l9 (jf a b))))) :
 Ret prog M.yJ [.agg (cT a),.agg (cT b)] (.tup [.agg (cT (if aj a&&aj b then l9 (jf a b) else aV)),.int .i64 (if aj a&&aj b then 0 else 1)]):=by
 have c1:Ret prog M.l6 [.vec 9 false [cT a,cT b]] (.bool (aj a&&(aj b&&true))):=by simpa using ahP [a,b] false
 refine Ret.go ah akQ (by simp) fun hb w0 F0 hG=>?_
 rw[Bool.and_true] at c1
 generalize l9 (jf a b)=R at *
 cases e:aj a&&aj b
 ·rw[e] at c1
  simp
  intros
  refine ak.ret (r:=.bool false) (by simp; exact c1) ?_
  simp[aV]
 ·rw[e] at c1
  simp only[Bool.and_eq_true] at e
  have c2:=hJ e.1 e.2
  simp
  intros
  refine ak.ret (r:=.bool true) (by simp; exact c1) ?_
  simp
  refine ak.ret (r:=.agg (cT R)) (by first|exact c2|(simpa using c2)) ?_
  simp
end Go.Proofs.YtngjnfbngheccaaGreatDoor.Pv
namespace Go.Proofs.YtngjnfbngheccaaGreatDoor.Pv
open Go Go.RowKit
mutual
def geV (M:Nat):PV→Prop
 | .own g _ _ _ _|.ptr g _ _ _=>M≤g.2
 | .agg cs=>geL M cs
 | .tup cs=>geL M cs
 | .fn _ a b=>geL M a∧geL M b
 | .iface _ x=>geV M x
 | .opt _ x=>geV M x
 | .undef|.bool _|.int _ _|.str _|.nilp|.nilf|.nili|.vec _ _ _|.ref _|.raw _=>True
def geL (M:Nat):List PV→Prop
 | []=>True
 | x::xs=>geV M x∧geL M xs
end
def geR (M:Nat):List (List PV)→Prop
 | []=>True
 | x::xs=>geL M x∧geR M xs
def geH (M:Nat) (h:List (Key × Option HE)):Prop:=∀ p∈h,M≤p.1.2∧∀ e,p.2=some e→e.bx=true→geR M e.xs
def LH (h h' : List (Key × Option HE)):Prop:=ajU (fun k=>hk k h) h' h
def aPA (P:Program) (f:FuncId) (args:List PV) (K:PV→List (Key × Option HE)→Prop):Prop :=
 callable P f=true∧∀ (M:Nat) (w:World) (F:Nat→Prop) (vs:List Value) (hG:GOk P w F),(∀ b,F b→b<w.heap.size)→aY w (GY F) args vs →
  Calls P f vs.toArray w fun e w'=>∃ v c r h,e=.returned v∧K r h∧geV M r∧geH M h∧dh ⟨P,w,F,0,[],0,hG⟩ h c w'∧bq w' c r v
theorem aPA.of {P:Program} {f nt:Nat} {m:MC} {rs:List RV} {args:List PV} {K:PV→List (Key × Option HE)→Prop} (ah:P.follows .mixedOrders=true) (hm:av P f=some (m.erase,nt,rs)) (hn:args.length≤nt)
 (hx:∀ M w0 F0 hG,XC ⟨P,w0,F0,nt,[],M,hG⟩ m (St.init args) [] (alQ rs fun r h''=>∃ h',K r h'∧geV M r∧geH M h'∧LH h'' h')):aPA P f args K:=by
 obtain⟨fn,c0,hf,hc,hb,rfl,htm,hrs⟩:=JI hm
 refine⟨hc,fun M w F vs hG hF hr=>calls_of_wp hf hb ?_⟩
 have hi:=apr hG hF hr hn
 refine wp_mono (jg (E:=⟨P,w,F,fn.ntmps,[],M,hG⟩) ah c0 m (St.init args) _ w _ htm ⟨GY F,hi.defers,hi.size,hi.slot,hi.heap,hi.fresh,hi.apart,hi.fz,hi.le,hi.bnd,hi.below,hi.ghost⟩ (hx M w F hG)) ?_
 rintro e a' w' ⟨ex,st',rfl,hq,c',hg'⟩
 have key:∀ q:Ji st' rs∧∃ h',K (oZ st' rs) h'∧geV M (oZ st' rs)∧geH M h'∧LH st'.h h',a'.defers=[]∧∃ v,(results fn a'.tmps).run P w'=.ok v w'∧∃ v' c r h,Ending.returned v=.returned v'∧K r h∧geV M r∧geH M h∧dh ⟨P,w,F,0,[],0,hG⟩ h c w'∧bq w' c r v':=by
  rintro⟨q1,h',q2,q3,q4,q5⟩
  obtain⟨v,k1,k2⟩:=Jo hg' hrs q1
  have hgl:=Good.leH (s:=st'.s) (h:=st'.h) (h':=h') hg' fun k=>axL k q5
  exact⟨hg'.defers,v,k1,v,c',_,h',rfl,q2,q3,q4,⟨hgl.heap,hgl.fresh,hgl.apart,hgl.fz,hgl.le,hgl.bnd,hgl.below⟩,k2⟩
 cases ex with
 | normal=>exact key hq
 | ret=>exact key hq
 | exit id=>exact hq.elim
 | goto l=>exact hq.elim
def LSF (fzk:List Key) (st S:St):Prop:=LS ⟨st.s,jO (fun k=>hk k st.h) fzk++st.h⟩ S
def LNV (E:Env) {γ:Type} (n:Nat) (S:Nat→γ→St) (J:Nat→γ→Prop) (i:Nat) (ks:List KF) (Q:Ex→St→Prop):Ex→St→Prop
 | .normal,st'=>i<n∧∃ g fzk,J (i+1) g∧LSF fzk st' (S (i+1) g)
 | e,st'=>XE E e st' ks Q
section
variable {E:Env} {body:MC} {st st' : St} {ks:List KF} {Q:Ex→St→Prop} {γ:Type} {n i:Nat} {S' : Nat→γ→St} {J' : Nat→γ→Prop}
theorem aJZ:LNV E n S' J' i ks Q .normal st'=(i<n∧∃ g fzk,J' (i+1) g∧LSF fzk st' (S' (i+1) g)):=propext Iff.rfl
theorem aMV {id:Nat}:LNV E n S' J' i ks Q (.exit id) st'=XE E (.exit id) st' ks Q:=propext Iff.rfl
theorem aOj:LNV E n S' J' i ks Q .ret st'=XE E .ret st' ks Q:=propext Iff.rfl
theorem aNL {id:Nat}:LNV E n S' J' i ks Q (.goto id) st'=XE E (.goto id) st' ks Q:=propext Iff.rfl
end
attribute [simp] aJZ aMV aOj aNL
theorem Ql (hl:Key→Option HE) (x:Option HE):leE hl x x:=by
 cases x with
 | none=>trivial
 | some e=>exact⟨rfl,rfl,.inl rfl,bf hl _⟩
theorem ayQ {hl:Key→Option HE} {h:List (Key × Option HE)}:∀ {h' : List (Key × Option HE)},(∀ p∈h',leE hl (hk p.1 h) p.2)→ajU hl h' h
 | [],_=>trivial
 | (k,e)::l,hp=>⟨hp (k,e) (by simp),ayQ fun p hp'=>hp p (by simp[hp'])⟩
end Go.Proofs.YtngjnfbngheccaaGreatDoor.Pv
set_option maxRecDepth 100000
namespace Go.Proofs.YtngjnfbngheccaaGreatDoor.Pv
open Go Go.Tidy
def rowP (a b:Ty) (o:List PV):List PV:=cT a++(cT b++o)
def hP (gv:Nat) (r:List PV) (h0:List (Key × Option HE)):List (Key × Option HE):=((13,gv),some ⟨27,[r],false,true⟩)::h0
set_option maxHeartbeats 2000000 in
theorem avX (gv:Nat) (a:Ty) (o:List PV) (h0:List (Key × Option HE)):Uw prog M.jH [.ptr (13,gv) 27 0 0] (hP gv (rowP a aV o) h0) (.tup []) (hP gv (rowP a aV o) h0):=by
 refine Uw.of ah NU (by simp) (fun k e h=>⟨e,h⟩) fun E hP' hV=>?_
 obtain⟨P,w0,F0,nt,G,V,glob⟩:=E
 obtain rfl:P=prog:=hP'
 by_cases q:a.nums=[]
 ·simp[hP,rowP,q,aV]
  exact fun a1 b _=>Ql _ _
 ·have q' : ¬ (a.nums.length:Int)=0:=by have:=List.length_pos_iff.2 q; omega
  simp[hP,rowP,q,q',aV]
  exact fun a1 b _=>Ql _ _
set_option maxHeartbeats 2000000 in
theorem aw9 (gv:Nat) (a:Ty) (o:List PV) (h0:List (Key × Option HE)):Uw prog M.jQ [.ptr (13,gv) 27 0 0] (hP gv (rowP a aV o) h0) (.tup []) (hP gv (rowP a aV o) h0):=by
 refine Uw.of ah Qg (by simp) (fun k e h=>⟨e,h⟩) fun E hP' hV=>?_
 obtain⟨P,w0,F0,nt,G,V,glob⟩:=E
 obtain rfl:P=prog:=hP'
 by_cases q:a.arrays=[]
 ·simp[hP,rowP,q,aV]
  exact fun a1 b _=>Ql _ _
 ·have q' : ¬ (a.arrays.length:Int)=0:=by have:=List.length_pos_iff.2 q; omega
  simp[hP,rowP,q,q',aV]
  exact fun a1 b _=>Ql _ _
def HN (gv:Nat) (h0:List (Key × Option HE)):Prop:=∀ p∈h0,hk p.1 h0=p.2∧p.1≠(13,gv)
theorem ahz (k k' : Key) (e:Option HE) (h:List (Key × Option HE)):hk k ((k',e)::h)=if k=k' then e else hk k h:=by simp[hk,eq_comm]
theorem aH5 {gv:Nat} {h0:List (Key × Option HE)} {k:Key} (hk' : k≠(13,gv)):∀ L:List (Key × Option HE),(∀ p∈L,p.1=(13,gv))→hk k (L++h0)=hk k h0
 | [],_=>rfl
 | (k',e)::L,h=>by
   have h1:k'=(13,gv):=h _ (List.mem_cons_self ..)
   rw[List.cons_append,ahz,if_neg (by rw[h1]; exact hk'),aH5 hk' L fun p hp=>h p (List.mem_cons_of_mem _ hp)]
theorem aeE {hl:Key→Option HE} {gv:Nat} {h0:List (Key × Option HE)} (hn:HN gv h0) (L:List (Key × Option HE)) (hL:∀ p∈L,p.1=(13,gv)):ajU hl h0 (L++h0):=ayQ fun p hp=>by
 obtain⟨h1,h2⟩:=hn p hp
 rw[aH5 h2 L hL,h1]; exact Ql _ _
set_option maxHeartbeats 8000000 in
theorem aAH (gv:Nat) (a:Ty) (hany:a.any=false) (h0:List (Key × Option HE)) (hn:HN gv h0) (ht:a.texts.length≤68719476736):Uw prog M.iG [.ptr (13,gv) 27 0 0] (hP gv (rowP a aV M.z1) h0) (.tup []) (hP gv (rowP a aV (cT aV)) h0):=by
 refine Uw.of ah Ak (by simp) (fun k e h=>by
  unfold hP at h ⊢
  rw[ahz] at h ⊢
  split at h
  ·rename_i hk'; rw[if_pos hk']; exact⟨_,rfl⟩
  ·rename_i hk'; rw[if_neg hk']; exact⟨_,h⟩) fun E hP' hV=>?_
 obtain⟨P,w0,F0,nt,G,V,glob⟩:=E
 obtain rfl:P=prog:=hP'
 have e4:=hany
 ·cases e1:a.null<;>cases e2:a.fls<;>cases e3:a.tru
  all_goals simp[hP,rowP,aV,e1,e2,e3,e4]
  all_goals refine aU.cnt ah a.texts.length (fun k (_:Unit)=>⟨[(74,.int .i64 k),(73,.int .i64 a.texts.length),(72,.vec 1 false (a.texts.map encStr)),(0,.ptr (13,gv) 27 0 0)],hP gv (rowP a aV M.z1) h0⟩) (fun _ _=>True) () trivial ?_ fun k _ hk _=>?_
  all_goals first
    | (simp[hP,rowP,aV,e1,e2,e3,e4]
       exact aeE hn [_,_,_,_,_] (by simp))
    | (have hw:=wrap64 (n:=(k:Int)+1) (by omega) (by omega)
       by_cases q1:k<a.texts.length
       ·have c1:=Dz [] a.texts[k]
        simp[hP,rowP,aV,e1,e2,e3,e4,q1]
        refine bF.go ah ?_
        simp
        refine ak.ret (by simpa using c1) ?_
        simp[hw,q1]
        exact aeE hn [_] (by simp)
       ·simp[hP,rowP,aV,e1,e2,e3,e4,q1]
        refine bF.go ah ?_
        simp
        intro a1 b _
        by_cases hkey:a1=13∧b=gv
        ·simp only[if_pos hkey]
         simp[M.z1,bf,Wo]
        ·simp only[if_neg hkey]
         exact Ql _ _)
end Go.Proofs.YtngjnfbngheccaaGreatDoor.Pv
namespace Go.Proofs.YtngjnfbngheccaaGreatDoor.Pv
open Go Go.RowKit
theorem Uw.ofF {P:Program} {f nt:Nat} {m:MC} {rs:List RV} {args:List PV} {h:List (Key × Option HE)} {r:PV} {h' : List (Key × Option HE)} (ah:P.follows .mixedOrders=true) (hm:av P f=some (m.erase,nt,rs)) (hn:args.length≤nt)
 (hold:∀ k e,hk k h'=some e→∃ e0,hk k h=some e0)
 (hx:∀ E:Env,E.P=P→(∀ k e,hk k h=some e→k.2<E.V)→XC E m ⟨(St.init args).s,h⟩ [] (alQ rs fun r' h''=>r'=r∧∃ fzk:List Key,∀ k,k.2<E.V→leE (fun k=>hk k (jO (fun k=>hk k h'') fzk++h'')) (hk k (jO (fun k=>hk k h'') fzk++h'')) (hk k h'))):Uw P f args h r h':=by
 obtain⟨fn,c0,hf,hc,hb,rfl,htm,hrs⟩:=JI hm
 refine⟨hc,fun E a c w vs d s hP hg hr=>?_⟩
 subst hP
 obtain⟨N,hN⟩:=hg.bnd
 have hV:∀ k e,hk k h=some e→k.2<N:=fun k e he=>hN k (hg.heap k e he).1
 refine calls_of_wp hf hb ?_
 refine wp_mono (jg (E:=⟨E.P,E.w0,E.F0,fn.ntmps,adJ E s a,N,E.glob⟩) ah c0 m _ _ w _ htm ⟨c,aes hg hr hn⟩ (hx _ rfl hV)) ?_
 rintro e a' w' ⟨ex,st',rfl,hq,c',hg'⟩
 have key:∀ q:Ji st' rs∧oZ st' rs=r∧∃ fzk:List Key,∀ k,k.2<N→leE (fun k=>hk k (jO (fun k=>hk k st'.h) fzk++st'.h)) (hk k (jO (fun k=>hk k st'.h) fzk++st'.h)) (hk k h'),a'.defers=[]∧∃ v,(results fn a'.tmps).run E.P w'=.ok v w'∧∃ v',Ending.returned v=.returned v'∧∃ c'',Good E ⟨JR d r s,h'⟩ c'' (a.put d v') w':=by
  rintro⟨q1,rfl,fzk,q2⟩
  obtain⟨v,k1,k2⟩:=Jo hg' hrs q1
  obtain⟨c2,hg2⟩:=Le.freeze fzk _ _ ⟨c',alh hg hg' k2⟩
  refine⟨hg'.defers,v,k1,v,rfl,c2,hg2.leH fun k=>?_⟩
  cases he:hk k h' with
  | none=>cases hk k (jO (fun k=>hk k st'.h) fzk++st'.h)<;>trivial
  | some e =>
    obtain⟨e0,he0⟩:=hold k e he
    have:=q2 k (hV k e0 he0)
    rw[he] at this
    exact this
 cases ex with
 | normal=>exact key hq
 | ret=>exact key hq
 | exit id=>exact hq.elim
 | goto l=>exact hq.elim
end Go.Proofs.YtngjnfbngheccaaGreatDoor.Pv
set_option maxRecDepth 100000
namespace Go.Proofs.YtngjnfbngheccaaGreatDoor.Pv
open Go Go.Tidy
set_option maxHeartbeats 8000000 in
theorem aHf (gv:Nat) (a:Ty) (hany:a.any=true) (h0:List (Key × Option HE)) (hn:HN gv h0) (ht:a.texts.length≤68719476736):Uw prog M.iG [.ptr (13,gv) 27 0 0] (hP gv (rowP a aV M.z1) h0) (.tup []) (hP gv (rowP a aV (cT aV)) h0):=by
 refine Uw.ofF ah Ak (by simp) (fun k e h=>by
  unfold hP at h ⊢
  rw[ahz] at h ⊢
  split at h
  ·rename_i hk'; rw[if_pos hk']; exact⟨_,rfl⟩
  ·rename_i hk'; rw[if_neg hk']; exact⟨_,h⟩) fun E hP' hV=>?_
 obtain⟨P,w0,F0,nt,G,V,glob⟩:=E
 obtain rfl:P=prog:=hP'
 have e4:=hany
 ·cases e1:a.null<;>cases e2:a.fls<;>cases e3:a.tru
  all_goals simp[hP,rowP,aV,e1,e2,e3,e4]
  all_goals refine aU.cnt ah a.texts.length (fun k (_:Unit)=>⟨[(74,.int .i64 k),(73,.int .i64 a.texts.length),(72,.vec 1 false (a.texts.map encStr)),(0,.ptr (13,gv) 27 0 0)],hP gv (rowP a aV M.z1) h0⟩) (fun _ _=>True) () trivial ?_ fun k _ hk _=>?_
  all_goals first
    | (simp[hP,rowP,aV,e1,e2,e3,e4]
       exact aeE hn [_,_,_,_,_] (by simp))
    | (have hw:=wrap64 (n:=(k:Int)+1) (by omega) (by omega)
       by_cases q1:k<a.texts.length
       ·have c1:=Dz [] a.texts[k]
        simp[hP,rowP,aV,e1,e2,e3,e4,q1]
        refine bF.go ah ?_
        simp
        refine ak.ret (by simpa using c1) ?_
        simp[hw,q1]
        exact aeE hn [_] (by simp)
       ·simp[hP,rowP,aV,e1,e2,e3,e4,q1]
        refine bF.go ah ?_
        simp
        refine ak.zn (by simpa using vg false [] (by simp)) ?_
        simp
        intro v hv
        refine⟨[(124,v)],?_⟩
        simp
        intro a1 b hb
        have hne:¬ (a1=124∧b=v):=by omega
        by_cases hkey:a1=13∧b=gv
        ·simp only[if_neg hne,if_pos hkey]
         simp[M.z1,bf,Wo]
        ·simp only[if_neg hne,if_neg hkey]
         exact Ql _ _)
theorem aIc {h0:List (Key × Option HE)} {k:Key}:∀ L:List (Key × Option HE),(∀ p∈L,k≠p.1)→hk k (L++h0)=hk k h0
 | [],_=>rfl
 | (k',e)::L,h=>by
   rw[List.cons_append,ahz,if_neg (h _ (List.mem_cons_self ..)),aIc L fun p hp=>h p (List.mem_cons_of_mem _ hp)]
theorem aNF {hl:Key→Option HE} {gv V:Nat} {r:List PV} {h0:List (Key × Option HE)} (hn:HN gv h0) (hV:∀ k e,hk k (hP gv r h0)=some e→k.2<V) (L:List (Key × Option HE)) (hL:∀ p∈L,p.1=(13,gv)∨V≤p.1.2):ajU hl h0 (L++h0):=ayQ fun p hp=>by
 obtain⟨h1,h2⟩:=hn p hp
 cases he:p.2 with
 | none=>cases hk p.1 (L++h0)<;>trivial
 | some e =>
   have h3:p.1.2<V:=hV p.1 e (by unfold hP; rw[ahz,if_neg h2,h1,he])
   rw[aIc L fun q hq e'=>by
    rcases hL q hq with h|h
    ·exact h2 (e'.trans h)
    ·rw[← e'] at h; omega,h1,he]
   exact Ql _ _
set_option maxHeartbeats 4000000 in
theorem awk (gv:Nat) (a:Ty) (o:List PV) (h0:List (Key × Option HE)) (hn:HN gv h0) (hl:a.objects.length≤68719476736):Uw prog M.jI [.ptr (13,gv) 27 0 0] (hP gv (rowP a aV o) h0) (.tup []) (hP gv (rowP a aV o) h0):=by
 refine Uw.of ah Ng (by simp) (fun k e h=>⟨e,h⟩) fun E hP' hV=>?_
 obtain⟨P,w0,F0,nt,G,V,glob⟩:=E
 obtain rfl:P=prog:=hP'
 simp[hP,rowP,aV]
 refine aU.cnt ah a.objects.length (fun k (_:Unit)=>⟨[(14,.int .i64 k),(13,.int .i64 a.objects.length),(12,.vec 12 false (a.objects.map au)),(0,.ptr (13,gv) 27 0 0)],hP gv (rowP a aV o) h0⟩) (fun _ _=>True) () trivial ?_ fun k _ hk _=>?_
 ·simp[hP,rowP,aV,Wo]
  exact aeE hn [_] (by simp)
 have hw:=wrap64 (n:=(k:Int)+1) (by omega) (by omega)
 by_cases q1:k<a.objects.length
 ·simp[hP,rowP,q1,aV]
  intro v hv
  refine aU.rnd ah (.s .z) ?_
  unfold aoq
  simp[hw,Wo,aoq]
  exact⟨q1,aNF hn hV [_,_,_] (by
   intro p hp
   simp only[List.mem_cons,List.not_mem_nil,or_false] at hp
   rcases hp with rfl|rfl|rfl
   ·exact .inr hv
   ·exact .inr hv
   ·exact .inl rfl)⟩
 ·simp[hP,rowP,q1,aV]
  exact fun a1 b _=>Ql _ _
end Go.Proofs.YtngjnfbngheccaaGreatDoor.Pv
set_option maxRecDepth 100000
namespace Go.Proofs.YtngjnfbngheccaaGreatDoor.Pv
open Go Go.Tidy
def aqa:List PV:=[.fn M.iG [] [],.fn M.jH [] [],.fn M.jQ [] [],.fn M.jI [] []]
theorem aqF:Ret prog M.AU [] (.agg aqa):=by
 refine Ret.go ah af0 (by simp) fun hb w0 F0 hG=>?_
 simp[aqa]
set_option maxHeartbeats 8000000 in
theorem avc (a:Ty) (h1:a.texts.length≤68719476736) (h2:a.objects.length≤68719476736):Ret prog M.xu [.agg (cT a),.agg (cT aV),.agg aqa] (.agg (cT aV)):=by
 have cf:∀ gv h0,HN gv h0→Uw prog M.iG [.ptr (13,gv) 27 0 0] (hP gv (rowP a aV M.z1) h0) (.tup []) (hP gv (rowP a aV (cT aV)) h0):=fun gv h0 hn=>by
  cases e:a.any
  ·exact aAH gv a e h0 hn h1
  ·exact aHf gv a e h0 hn h1
 refine Ret.go ah afW (by simp) fun hb w0 F0 hG=>?_
 have w1:IntKind.i64.wrap 1=1:=wrap64 (by omega) (by omega)
 have w2:IntKind.i64.wrap 2=2:=wrap64 (by omega) (by omega)
 have w3:IntKind.i64.wrap 3=3:=wrap64 (by omega) (by omega)
 have w4:IntKind.i64.wrap 4=4:=wrap64 (by omega) (by omega)
 simp[aqa,aV]
 intros
 refine aU.rnd ah (.s (.s (.s (.s (.s .z))))) ?_
 simp[ku]
 refine ak.ayU (cf _ _ ?_) ?_
 ·intro p hp
  simp only[List.mem_cons,List.not_mem_nil,or_false] at hp
  rcases hp with rfl|rfl|rfl|rfl<;>simp[hk]
 simp[hP,rowP,aV,w1,ku]
 refine ak.ayU (avX _ a (cT aV) _) ?_
 simp[hP,rowP,aV,w2,ku]
 refine ak.ayU (aw9 _ a (cT aV) _) ?_
 simp[hP,rowP,aV,w3,ku]
 refine ak.ayU (awk _ a (cT aV) _ ?_ h2) ?_
 ·intro p hp
  simp only[List.mem_cons,List.not_mem_nil,or_false] at hp
  rcases hp with rfl|rfl|rfl|rfl<;>simp[hk]
 simp[hP,rowP,aV,w4,ku]
theorem ak3 (a b m:Ty) (ha:aj a=true) (hb:aj b=true) (hc:Ret prog M.qZ [.agg (cT a),.agg (cT b)] (.agg (cT m))) (ht:Ret prog M.ko [.agg (cT m)] (.agg (cT (l9 m)))):Ret prog M.u6 [.agg (cT a),.agg (cT b)] (.tup [.agg (cT (l9 m)),.int .i64 0]):=by
 have c1:Ret prog M.l6 [.vec 9 false [cT a,cT b]] (.bool (aj a&&(aj b&&true))):=by simpa using ahP [a,b] false
 refine Ret.go ah aj6 (by simp) fun _ w0 F0 hG=>?_
 rw[ha,hb] at c1
 generalize l9 m=R at *
 simp
 intros
 refine ak.ret (r:=.bool true) (by simp; exact c1) ?_
 simp
 refine ak.ret (r:=.agg (cT m)) (by first|exact hc|(simpa using hc)) ?_
 simp
 refine ak.ret (r:=.agg (cT R)) (by first|exact ht|(simpa using ht)) ?_
 simp
theorem awH (a:Ty) (h1:a.texts.length≤68719476736) (h2:a.objects.length≤68719476736):Ret prog M.qZ [.agg (cT a),.agg (cT aV)] (.agg (cT aV)):=by
 have c1:=abq [] 0 (by simp) (by simp) aV zL alE
 have c2:=avc a h1 h2
 have c3:=aqF
 refine Ret.go ah aau (by simp) fun hb w0 F0 hG=>?_
 cases e:a.all
 ·simp[e,aV]
  intros
  refine aH.ret (by first|exact c3|(simpa using c3)) ?_
  simp[aqa]
  refine aH.ret (r:=.agg (cT aV)) (by first|exact c2|(simpa[cT,e,aqa,aV] using c2)) ?_
  simp[aV]
 ·simp[e,aV]
  intros
  refine ak.ret (r:=.agg (cT aV)) (by first|exact c1|(simpa[aV] using c1)) ?_
  simp[aV]
theorem awL (a:Ty) (ha:aj a=true) (NM:List S) (m:Nat) (h1:NM.length≤8589934592) (h2:m≤8589934592) (hb:bdT NM m a):Ret prog M.qZ [.agg (cT a),.agg (cT dx)] (.agg (cT a)):=by
 have c1:=abq NM m h1 h2 a ha hb
 refine Ret.go ah aau (by simp) fun hb' w0 F0 hG=>?_
 cases e:a.all
 ·simp[e,dx]
  intros
  refine ak.ret (r:=.agg (cT a)) (by first|exact c1|(simpa[cT,e] using c1)) ?_
  simp[cT,e]
 ·have ea:=an8 ha e
  subst ea
  simp[dx]
  intros
  refine ak.ret (r:=.agg (cT dx)) (by first|exact c1|(simpa[dx] using c1)) ?_
  simp[dx]
end Go.Proofs.YtngjnfbngheccaaGreatDoor.Pv
namespace Go.Tidy
open Go
inductive Val where
 | mk (kind:Int) (num text:S) (items:List Val) (keys:List S)
namespace Val
def kind:Val→Int|.mk a _ _ _ _=>a
def num:Val→S|.mk _ a _ _ _=>a
def text:Val→S|.mk _ _ a _ _=>a
def items:Val→List Val|.mk _ _ _ a _=>a
def keys:Val→List S|.mk _ _ _ _ a=>a
end Val
end Go.Tidy
namespace Go.Tidy
open Go
def aNV {α:Type} (f:α→Bool):List α→Bool
 | []=>false
 | a::_=>f a
@[simp] theorem aQz {α:Type} (f:α→Bool):aNV f []=false:=rfl
@[simp] theorem aQf {α:Type} (f:α→Bool) (a:α) (l:List α):aNV f (a::l)=f a:=rfl
theorem aO4 {l:List S} (h:SSs l) {i j:Nat} (hi:i<l.length) (hj:j<l.length) (e:l[i]=l[j]):i=j:=by
 have key:∀ i j (hi:i<l.length) (hj:j<l.length),i<j→l[i]≠l[j]:=fun i j hi hj hij e=>by
  have:=List.pairwise_iff_getElem.1 h i j hi hj hij
  rw[e,aku.2 rfl] at this
  cases this
 rcases Nat.lt_trichotomy i j with h1|h1|h1
 ·exact absurd e (key i j hi hj h1)
 ·exact h1
 ·exact absurd e.symm (key j i hj hi h1)
theorem aDu (o:Ob) (n:S):(∃ p∈jD o,p.1=n∧bn o n=p.2)∨(bn o n=(o.rest,false)∧∀ p∈jD o,p.1≠n):=by
 unfold bn
 split
 ·rename_i p hp
  exact .inl ⟨p,List.mem_of_find?_eq_some hp,uf.1 (by simpa using List.find?_some hp),rfl⟩
 ·rename_i hp
  exact .inr ⟨rfl,fun p hm e=>by
   have:=List.find?_eq_none.1 hp p hm
   exact this (uf.2 e)⟩
theorem aMi {o:Ob} (ho:bg o=true) {p q:S × Ty × Bool} (hp:p∈jD o) (hq:q∈jD o) (e:p.1=q.1):p=q:=by
 obtain⟨h1,h2,_⟩:=dH ho
 obtain⟨i,hi,rfl⟩:=List.getElem_of_mem hp
 obtain⟨j,hj,rfl⟩:=List.getElem_of_mem hq
 have hs:=oq ho
 unfold jD at e hi hj ⊢
 simp only[List.length_zip] at hi hj
 simp only[List.getElem_zip] at e
 have:=aO4 hs (by omega) (by omega) e
 subst this
 rfl
theorem acG {o:Ob} (ho:bg o=true) {p:S × Ty × Bool} (hp:p∈jD o):bn o p.1=p.2:=by
 rcases aDu o p.1 with ⟨q,hq,e1,e2⟩|⟨_,h⟩
 ·rw[e2,aMi ho hq hp e1]
 ·exact absurd rfl (h p hp)
end Go.Tidy
namespace Go.Tidy
open Go
theorem ao4 (l:List Ty):aec l=l.map p9:=by
 induction l with
 | nil=>simp[aec]
 | cons a l ih=>simp[aec,ih]
theorem ate (o x:Ob):tq o x=((x.names++o.names).all (fun n=>(!(bn o n).2||(bn x n).2)&&p9 (bn o n).1 (bn x n).1)&&p9 o.rest x.rest):=by
 obtain⟨ns,fs,ms,r⟩:=o
 simp only[tq,Ob.ahZ,Ob.agX]
 congr 1
 refine congrArg _ (funext fun n=>?_)
 generalize bn x n=q
 have:ns.zip ((aec fs).zip ms)=(ns.zip (fs.zip ms)).map fun p=>(p.1,p9 p.2.1,p.2.2):=by
  have h1:(aec fs).zip ms=(fs.zip ms).map fun q=>(p9 q.1,q.2):=by
   rw[ao4,List.zip_map_left]; rfl
  rw[h1,List.zip_map_right]; rfl
 rw[this,List.find?_map]
 have e:((fun p:S × (Ty→Bool) × Bool=>sEq p.1 n)∘fun p:S × Ty × Bool=>(p.1,p9 p.2.1,p.2.2))=fun p=>sEq p.1 n:=rfl
 rw[e]
 simp only[bn,Ob.ahZ,Ob.uy,Ob.aaR,Ob.agX]
 cases (ns.zip (fs.zip ms)).find? (fun p=>sEq p.1 n)<;>simp
end Go.Tidy
namespace Go.Tidy
open Go
theorem amB (o:Ob):(jD o).length≤o.names.length:=by unfold jD; rw[List.length_zip]; omega
def aKo (o:Ob):Nat:=iw o.rest+mq o.fields
def ax5 {α:Type} (f:α→Nat) (l:List α):Nat:=(l.map f).foldr (·+·) 0
theorem azo {α:Type} (f:α→Nat) (a:α) (l:List α):ax5 f (a::l)=f a+ax5 f l:=rfl
theorem ar8:∀ l:List Ob,oQ l=ax5 aKo l
 | []=>rfl
 | .mk ns fs ms r::l=>by rw[oQ,azo,ar8 l]; rfl
theorem arP:∀ l:List Arr,lQ l=ax5 (fun a=>iw a.item) l
 | []=>rfl
 | .mk t lo hi::l=>by rw[lQ,azo,arP l]; rfl
theorem aly (t:Ty):iw t=1+(ax5 (fun a=>iw a.item) t.arrays+ax5 aKo t.objects):=by
 obtain⟨a,b,c,d,ns,e,ts,az,os⟩:=t
 rw[iw,arP,ar8]; rfl
theorem ahF (h:Nat):bG h dx=dx:=by cases h<;>rfl
theorem aI0 {t:Ty} (ht:aj t=true):never (l9 t)=never t:=by
 obtain⟨k,hk,e⟩:=atA t
 rw[e]; exact aag k t ht
end Go.Tidy
namespace Go.Tidy
open Go
theorem aGv {x:Ty} (h:aj x=true):jf x aV=x:=by
 rw[zX]
 simp only[aV,Ty.all_mk,Ty.agU,Ty.akz,Ty.ak5,Ty.aa3,Ty.any_mk,Ty.rz,Ty.qP,Ty.pQ,Bool.or_false,aJp,aE9,Uh,List.append_nil]
 cases ha:x.all
 ·have:(if x.any=true then [] else x.texts)=x.texts:=by
     split
     ·rename_i k; exact ((bN h).2.2.1 k).symm
     ·rfl
  rw[this]
  have:=Ty.eta x
  rw[ha] at this
  simpa using this
 ·rw[if_pos rfl,an8 h ha]
end Go.Tidy
namespace Go.Tidy
open Go
end Go.Tidy
namespace Go.Tidy
open Go
end Go.Tidy
namespace Go.Tidy
open Go
def wtS:List S→Nat
 | []=>0
 | s::l=>s.data.toList.length+1+wtS l
mutual
def wtT:Ty→Nat
 | .mk _ _ _ _ _ _ ts az os=>10+wtS ts+ajV az+adx os
def ajV:List Arr→Nat
 | []=>0
 | .mk t _ _::l=>3+wtT t+ajV l
def adx:List Ob→Nat
 | []=>0
 | .mk ns fs ms r::l=>4+wtS ns+ahi fs+ms.length+wtT r+adx l
def ahi:List Ty→Nat
 | []=>0
 | t::l=>wtT t+ahi l
end
theorem aPe (t:Ty):10≤wtT t:=by
 cases t; simp only[wtT]; omega
theorem aFb:∀ l:List Ob,14*l.length≤adx l
 | []=>by simp[adx]
 | .mk ns fs ms r::l=>by
   have:=aPe r
   have:=aFb l
   simp only[adx,List.length_cons]; omega
theorem aKN:∀ l:List S,(∀ x∈l,x.data.toList≠[])→2*l.length≤wtS l
 | [],_=>by simp[wtS]
 | s::l,h=>by
   have h1:=aKN l fun x hx=>h x (by simp[hx])
   have h2:0<s.data.toList.length:=List.length_pos_iff.2 (h s (by simp))
   simp only[wtS,List.length_cons]; omega
theorem aQp {a x:S} (h:lq a x=.lt):x.data.toList≠[]:=fun e=>by
 unfold lq at h
 split at h
 ·rename_i hl
  unfold sLt at hl
  rw[e] at hl
  cases ha:a.data.toList<;>rw[ha] at hl<;>simp[Op.bytesLess] at hl
 ·split at h<;>cases h
theorem aOU {l:List S} (h:iQ l=true):2*l.length≤wtS l+1:=by
 have hs:=(JV h).1
 cases l with
 | nil=>simp
 | cons a l =>
   have h1:=aKN l fun x hx=>aQp ((List.pairwise_cons.1 hs).1 x hx)
   simp only[wtS,List.length_cons]; omega
mutual
theorem avB:∀ t:Ty,aj t=true→8*(al9 t).length+10≤wtT t
 | .mk _ _ _ _ ns _ ts az os,h=>by
   have hs:=bN h
   have h1:=aDE az hs.2.2.2.2.2.2.1
   have h2:=aE4 os hs.2.2.2.2.2.2.2
   simp only[al9,wtT,List.length_append]; omega
theorem aDE:∀ l:List Arr,(∀ a∈l,gu a=true)→8*(ama l).length≤ajV l
 | [],_=>by simp[ama]
 | .mk t lo hi::l,h=>by
   have h1:=avB t (gY (h _ (List.mem_cons_self ..))).2.2.2.1
   have h2:=aDE l fun a ha=>h a (List.mem_cons_of_mem _ ha)
   simp only[ama,ajV,List.length_append]; omega
theorem aE4:∀ l:List Ob,(∀ o∈l,bg o=true)→8*(amw l).length≤adx l
 | [],_=>by simp[amw]
 | .mk ns fs ms r::l,h=>by
   have ho:=dH (h _ (List.mem_cons_self ..))
   have hl:ns.length=fs.length:=ho.1
   have h1:=avB r ho.2.2.2.1
   have h2:=aGy fs ho.2.2.2.2.1
   have h3:=aE4 l fun a ha=>h a (List.mem_cons_of_mem _ ha)
   simp only[amw,adx,List.length_append]; omega
theorem aGy:∀ l:List Ty,(∀ t∈l,aj t=true)→8*(alK l).length+10*l.length≤ahi l
 | [],_=>by simp[alK]
 | t::l,h=>by
   have h1:=avB t (h _ (List.mem_cons_self ..))
   have h2:=aGy l fun a ha=>h a (List.mem_cons_of_mem _ ha)
   simp only[alK,ahi,List.length_append,List.length_cons]; omega
end
mutual
theorem aDf {NM:List S} {m:Nat}:∀ t:Ty,aj t=true→(∀ n∈al9 t,n∈NM)→wtT t≤8*m+7→bdT NM m t
 | .mk _ _ _ _ ns _ ts az os,h,hn,hm=>by
   have hs:=bN h
   have h1:=aFb os
   have h2:2*ts.length≤wtS ts+1:=aOU hs.2.1
   simp only[wtT] at hm
   simp only[al9,List.mem_append] at hn
   exact⟨by omega,by omega,aH0 az hs.2.2.2.2.2.2.1 (fun n h=>hn n (.inl h)) (by omega),aH7 os hs.2.2.2.2.2.2.2 (fun n h=>hn n (.inr h)) (by omega)⟩
theorem aH0 {NM:List S} {m:Nat}:∀ l:List Arr,(∀ a∈l,gu a=true)→(∀ n∈ama l,n∈NM)→ajV l≤8*m+7→afp NM m l
 | [],_,_,_=>trivial
 | .mk t lo hi::l,h,hn,hm=>by
   simp only[ajV] at hm
   simp only[ama,List.mem_append] at hn
   exact⟨aDf t (gY (h _ (List.mem_cons_self ..))).2.2.2.1 (fun n h=>hn n (.inl h)) (by omega),aH0 l (fun a ha=>h a (List.mem_cons_of_mem _ ha)) (fun n h=>hn n (.inr h)) (by omega)⟩
theorem aH7 {NM:List S} {m:Nat}:∀ l:List Ob,(∀ o∈l,bg o=true)→(∀ n∈amw l,n∈NM)→adx l≤8*m+7→afJ NM m l
 | [],_,_,_=>trivial
 | .mk ns fs ms r::l,h,hn,hm=>by
   have ho:=dH (h _ (List.mem_cons_self ..))
   simp only[adx] at hm
   simp only[amw,List.mem_append] at hn
   exact⟨⟨fun n h=>hn n (.inl (.inl (.inl h))),aIB fs ho.2.2.2.2.1 (fun n h=>hn n (.inl (.inr h))) (by omega),aDf r ho.2.2.2.1 (fun n h=>hn n (.inl (.inl (.inr h)))) (by omega)⟩,aH7 l (fun a ha=>h a (List.mem_cons_of_mem _ ha)) (fun n h=>hn n (.inr h)) (by omega)⟩
theorem aIB {NM:List S} {m:Nat}:∀ l:List Ty,(∀ t∈l,aj t=true)→(∀ n∈alK l,n∈NM)→ahi l≤8*m+7→afx NM m l
 | [],_,_,_=>trivial
 | t::l,h,hn,hm=>by
   simp only[ahi] at hm
   simp only[alK,List.mem_append] at hn
   exact⟨aDf t (h _ (List.mem_cons_self ..)) (fun n h=>hn n (.inl h)) (by omega),aIB l (fun a ha=>h a (List.mem_cons_of_mem _ ha)) (fun n h=>hn n (.inr h)) (by omega)⟩
end
mutual
theorem aDi:∀ t:Ty,aK t<wtT t
 | .mk _ _ _ _ ns _ ts az os=>by
   have:=aIE az
   have:=aH4 os
   simp only[aK,wtT]; omega
theorem aIE:∀ l:List Arr,jv l≤ajV l
 | []=>by simp[jv]
 | .mk t _ _::l=>by
   have:=aDi t
   have:=aIE l
   simp only[jv,ajV]; omega
theorem aH4:∀ l:List Ob,jy l≤adx l
 | []=>by simp[jy]
 | .mk ns fs ms r::l=>by
   have:=aDi r
   have:=aIx fs
   have:=aH4 l
   simp only[jy,adx]; omega
theorem aIx:∀ l:List Ty,mh l≤ahi l
 | []=>by simp[mh]
 | t::l=>by
   have:=aDi t
   have:=aIx l
   simp only[mh,ahi]; omega
end
end Go.Tidy
set_option maxRecDepth 100000
namespace Go.Proofs.YtngjnfbngheccaaGreatDoor.Pv
open Go Go.Tidy
theorem aiK (t:Ty):Ret prog M.qG [.agg (cT t),.int .i64 0,.agg (cT t)] (.bool true):=by
 have c1:=axP t t
 rw[lg rfl] at c1
 refine Ret.go ah avW (by simp) fun hb w0 F0 hG=>?_
 simp
 intros
 refine ak.ret (by first|exact c1|(simpa using c1)) ?_
 simp
theorem aDR:l9 aV=aV:=by
 have h2:never (l9 aV)=true:=by rw[aI0 zL]; rfl
 generalize l9 aV=t at h2
 obtain⟨a,b,c,d,ns,e,ts,az,os⟩:=t
 obtain⟨h1,h2,h3,h4,h5,h6,h7,h8,h9⟩:=YJ.1 h2
 simp only[Ty.all_mk,Ty.agU,Ty.akz,Ty.ak5,Ty.any_mk,Ty.aa3,Ty.rz,Ty.qP,Ty.pQ] at h1 h2 h3 h4 h5 h6 h7 h8 h9
 rw[h1,h2,h3,h4,h5,h6,h7,h8,h9]; rfl
set_option maxHeartbeats 8000000 in
theorem alv (hK:Ret prog M.ni [] (.bool true)) (hL:alR) (t:Ty) (hw:wtT t≤1048576):Ret prog M.Qm [.agg (cT t)] (.bool true):=by
 refine Ret.go ah amq (by simp) fun hb w0 F0 hG=>?_
 have c1:=ak2 t
 simp
 intros
 refine ak.ret (by first|exact hK|(simpa using hK)) ?_
 simp
 refine ak.ret (by first|exact c1|(simpa using c1)) ?_
 cases g:aj t
 ·simp
 have hn:=avB t g
 have hh:=aDi t
 have hbd:bdT (al9 t) (wtT t / 8) t:=aDf t g (fun n h=>h) (by omega)
 generalize hNM:al9 t=NM at *
 generalize hm:wtT t / 8=m at *
 have hm' : m≤131072:=by omega
 have hN' : NM.length≤131071:=by omega
 have c2:=aFy NM t ⟨by omega,m,hbd,by omega⟩
 rw[g] at c2
 have s1:=aNU t aV NM m hN' (by omega) hbd alE
 have t1:=aFd hL NM hN' t m hm' hbd (by omega)
 have t2:=aFd hL NM hN' aV 0 (by omega) alE (by decide)
 have e1:jf t aV=t:=aGv g
 have j1:=ay1 t aV g zL s1 (by rw[e1]; exact t1)
 have j2:=axX t aV fun _ _=>j1
 rw[g,zL,e1] at j2
 have u1:=aaJ t g t1
 have u2:=aaJ aV zL t2
 have m1:=ak3 t dx t g XQ (awL t g NM m (by omega) (by omega) hbd) u1
 obtain⟨bt1,bt2,-,-⟩:=uz.1 hbd
 have m2:=ak3 t aV aV g zL (awH t (by omega) (by omega)) u2
 rw[aDR] at m2
 have i1:=aiK (l9 t)
 have i2:=aiK aV
 generalize l9 t=R at *
 simp
 refine ak.ret (by first|exact c2|(simpa using c2)) ?_
 simp
 intros
 refine ak.ret (by first|exact j2|(simpa[aV] using j2)) ?_
 simp
 intros
 refine ak.ret (by first|exact m1|(simpa[dx] using m1)) ?_
 simp
 intros
 refine ak.ret (by first|exact m2|(simpa[aV] using m2)) ?_
 simp
 intros
 refine ak.ret (by first|exact i1|(simpa using i1)) ?_
 simp
 refine ak.ret (by first|exact i1|(simpa using i1)) ?_
 simp
 refine ak.ret (by first|exact i2|(simpa[aV] using i2)) ?_
 simp
end Go.Proofs.YtngjnfbngheccaaGreatDoor.Pv
namespace Go.Proofs.YtngjnfbngheccaaGreatDoor.Pv
open Go Go.RowKit
def avI (cb want:Bool):PV→Bool
 | .opt b' _=>cb != want||b'
 | _=>true
theorem azI {cb want:Bool} {x:PV} (h:avI cb want x=true):atU cb want x:=by
 cases x<;>first|trivial|skip
 rename_i b y
 intro e
 subst e
 simpa[avI] using h
def aLF (gb:Bool):PV→Bool
 | .opt b' _=>!gb||b'
 | _=>true
def aqn (gb:Bool) (get:MO→PV):List MO→Bool
 | []=>true
 | x::xs=>aLF gb (get x)&&aqn gb get xs
theorem avP {gb:Bool} {get:MO→PV}:∀ xs,aqn gb get xs=true→aia gb get xs
 | [],_=>trivial
 | x::xs,h=>by
   simp only[aqn,Bool.and_eq_true] at h
   refine⟨?_,avP xs h.2⟩
   have h1:=h.1
   generalize get x=y at *
   cases y<;>first|trivial|skip
   rename_i b z
   intro e
   subst e
   simpa[aLF] using h1
def aLd:PV→Bool
 | .opt b _=>b
 | _=>true
theorem aL4 {x:PV} (h:aLd x=true):aDk x:=by
 cases x<;>first|trivial|exact h
def aDj (hl:Key→Option HE):PV→Bool
 | .own g _ off len _=>match hl g with
   | some e=>!e.bx&&decide (off+len≤e.xs.length)
   | none=>false
 | _=>true
theorem aDx {hl:Key→Option HE} {x:PV} {po:Prop} {xe:Nat} {rd:List Nat} {cx:List (List PV)} (h:rowsOf hl x=some (po,xe,rd,cx)) (hb:aDj hl x=true):po:=by
 unfold rowsOf at h
 split at h
 ·cases h; trivial
 ·split at h
  ·rename_i e he
   cases h
   simp only[aDj,he,Bool.and_eq_true,Bool.not_eq_true',decide_eq_true_eq] at hb
   exact hb
  ·cases h
 ·cases h; trivial
 ·cases h
def preB (get:MO→PV) (hl:Key→Option HE):MI→Bool
 | .pick c a b=>aLd (get c)&&match strip (get c) with
   | .bool cb=>avI cb true (get a)&&avI cb false (get b)
   | _=>false
 | .box x=>storable (get x)
 | .build z ps=>aqk z.length (ps.map fun p=>(p.1,p.2.1,get p.2.2))
 | .bslice esz z n ps=>alF esz n (ps.map fun p=>(p.1,reify hl (get p.2)))&&amr hl (ps.map fun p=>get p.2)&&decide (z.length=esz)&&decide (0<esz)&&decide (n≤1024)
 | .load a n ag=>match get a with
   | .ref cs=>decide (n≤cs.length)&&(ag||decide (n=1))
   | .ptr g _ i off=>match hl g with
     | some e=>decide (i<e.xs.length)&&decide (off+n≤(e.xs.getD i []).length)&&(ag||decide (n=1))
     | none=>false
   | _=>false
 | .store a x n=>match get a with
   | .ptr g _ i off=>match hl g with
     | some e=>if e.bx then decide (i<e.xs.length)&&decide (off+n≤(e.xs.getD i []).length)&&decide ((cells (get x)).length=n)&&storable (get x)
       else decide (i<e.xs.length)&&decide (off+n≤(e.xs.getD i []).length)&&decide ((cells (reify hl (get x))).length=n)&&storable (reify hl (get x))&&apw hl (get x)&&!(keysOf hl (get x)).contains g
     | none=>false
   | _=>false
 | .bin op _ x y=>aJ3 op (get x) (get y)
 | .field x off n ag=>match get x with
   | .agg cs=>decide (off+n≤cs.length)&&(ag||decide (n=1))
   | _=>false
 | .iaddr x i _=>match get x,get i with
   | .vec _ _ xs,.int _ n=>decide (0≤n)&&decide (n<xs.length)
   | .own _ _ _ len _,.int _ n=>decide (0≤n)&&decide (n<len)
   | _,_=>false
 | .iaddrp _ i len _=>match get i with
   | .int _ n=>decide (0≤n)&&decide (n<len)
   | _=>false
 | .sidx x i=>match get x,get i with
   | .str s,.int _ n=>decide (0≤n)&&decide (n<s.size)
   | _,_=>false
 | .aidx x i len esz ag=>match get x,get i with
   | .agg cs,.int _ n=>decide (0≤n)&&decide (n<len)&&decide (cs.length=len*esz)&&(ag||decide (esz=1))
   | _,_=>false
 | .slc x esz lo hi mx=>match get x with
   | .vec esz' _ xs=>match bounds xs.length (lo.map get) (hi.map get),ajq get mx with
     | some (l,h),some none=>(xs.isEmpty||decide (esz'=esz))&&decide (0≤l)&&decide (l≤h)&&decide (h≤xs.length)
     | some (l,h),some (some m)=>(xs.isEmpty||decide (esz'=esz))&&decide (0≤l)&&decide (l≤h)&&decide (h≤m)&&decide (m≤xs.length)
     | _,_=>false
   | .own _ _ _ len _=>match bounds len (lo.map get) (hi.map get),ajq get mx with
     | some (l,h),some none=>decide (0≤l)&&decide (l≤h)&&decide (h≤len)
     | some (l,h),some (some m)=>decide (0≤l)&&decide (l≤h)&&decide (h≤m)&&decide (m≤len)
     | _,_=>false
   | _=>false
 | .sslc x lo hi=>match get x with
   | .str s=>match bounds s.size (lo.map get) (hi.map get) with
     | some (l,h)=>decide (0≤l)&&decide (l≤h)&&decide (h≤s.size)
     | none=>false
   | _=>false
 | .ext x i=>match get x with
   | .tup vs=>decide (i<vs.length)
   | _=>false
 | .app s x esz=>aDj hl (get x)&&(match rowsOf hl (get x) with
   | some (_,xe,_,cx)=>match get s with
     | .vec esz' full xs=>if ajK full xs&&esz' == esz then (cx.isEmpty||decide (xe=esz))&&decide (0<esz)&&decide (cx.length≤68719476736)
       else cx.isEmpty||decide (0<cx.length)&&decide (xe=esz)&&(xs.isEmpty||decide (esz'=esz))&&decide (0<esz)&&decide (xs.length+cx.length≤68719476736)
     | .own g _ off len _=>match hl g with
       | some e=>(cx.isEmpty||decide (xe=esz))&&decide (off+len≤e.xs.length)&&decide (len+cx.length≤68719476736)
       | none=>false
     | _=>false
   | none=>false)
 | .appz s n esz z=>match get n with
   | .int _ k=>decide (z.length=esz)&&decide (0<esz)&&decide (1≤k)&&decide (k≤34359738368)
   | _=>false
 | .b2s x=>aDj hl (get x)&&(match rowsOf hl (get x) with
   | some (_,_,_,cx)=>decide (cx.length≤LIM)
   | none=>false)
 | .mksl esz z l c=>match get l,get c with
   | .int _ n,.int _ m=>decide (z.length=esz)&&decide (0<esz)&&decide (0≤n)&&decide (n≤m)&&decide (m≤34359738368)
   | _,_=>false
 | .clr x esz=>match get x with
   | .own g _ off len _=>match hl g with
     | some e=>decide (off+len≤e.xs.length)
     | none=>false
   | _=>true
 | _=>true
theorem aIz {key:Key} {get:MO→PV} {hl:Key→Option HE} {i:MI} {out:Out} (hs:aJ key get hl i=some out) (hb:preB get hl i=true):out.pre:=by
 cases i with
 | pick c a b =>
   simp only[aJ] at hs
   simp only[preB] at hb
   split at hs
   ·rename_i cb hc
    cases hs
    simp only[hc,Bool.and_eq_true] at hb
    exact⟨aL4 hb.1,azI hb.2.1,azI hb.2.2⟩
   ·cases hs
 | box x=>simp only[aJ,Option.some.injEq] at hs; subst hs; exact hb
 | build z ps=>simp only[aJ,Option.some.injEq] at hs; subst hs; exact avw _ hb
 | bslice esz z n ps =>
   simp only[aJ,Option.some.injEq] at hs; subst hs
   simp only[preB,Bool.and_eq_true,decide_eq_true_eq] at hb
   obtain⟨⟨⟨⟨h1,h2⟩,h3⟩,h4⟩,h5⟩:=hb
   exact⟨arK _ h1,aaL _ h2,h3,h4,h5⟩
 | load a n ag =>
   simp only[aJ] at hs
   simp only[preB] at hb
   split at hs
   ·rename_i cs hx
    cases hs
    simp only[hx,Bool.and_eq_true,decide_eq_true_eq,Bool.or_eq_true] at hb
    exact⟨hb.1,fun h=>hb.2.resolve_left (by simp[h])⟩
   ·rename_i g esz i off hx
    split at hs
    ·rename_i e he
     cases hs
     simp only[hx,he,Bool.and_eq_true,decide_eq_true_eq,Bool.or_eq_true] at hb
     exact⟨hb.1.1,hb.1.2,fun h=>hb.2.resolve_left (by simp[h])⟩
    ·cases hs
   ·cases hs
 | store a x n =>
   simp only[aJ] at hs
   simp only[preB] at hb
   split at hs
   ·rename_i g esz i off hx
    split at hs
    ·rename_i e he
     split at hs
     ·cases hs
     ·split at hs
      ·rename_i hbx
       cases hs
       simp only[hx,he,hbx,if_true,Bool.and_eq_true,decide_eq_true_eq] at hb
       exact⟨hb.1.1.1,hb.1.1.2,hb.1.2,hb.2⟩
      ·rename_i hbx
       cases hs
       simp only[hx,he,hbx,if_false,Bool.and_eq_true,decide_eq_true_eq,Bool.not_eq_true',Bool.false_eq_true] at hb
       exact⟨hb.1.1.1.1.1,hb.1.1.1.1.2,hb.1.1.1.2,hb.1.1.2,aqf _ hb.1.2,hb.2⟩
    ·cases hs
   ·cases hs
 | bin op cls x y =>
   simp only[aJ] at hs
   split at hs
   ·rename_i p r hbs
    cases hs
    exact aOr hbs hb
   ·cases hs
 | field x off n ag =>
   simp only[aJ] at hs
   simp only[preB] at hb
   split at hs
   ·rename_i cs hx
    cases hs
    simp only[hx,Bool.and_eq_true,decide_eq_true_eq,Bool.or_eq_true] at hb
    exact⟨hb.1,fun h=>hb.2.resolve_left (by simp[h])⟩
   ·cases hs
 | iaddr x i esz =>
   simp only[aJ] at hs
   simp only[preB] at hb
   split at hs
   ·rename_i e f xs k n hx hy
    split at hs
    ·cases hs
     simp only[hx,hy,Bool.and_eq_true,decide_eq_true_eq] at hb
     exact hb
    ·cases hs
   ·rename_i g e off len full k n hx hy
    split at hs
    ·cases hs
     simp only[hx,hy,Bool.and_eq_true,decide_eq_true_eq] at hb
     exact hb
    ·cases hs
   ·cases hs
 | iaddrp x i len esz =>
   simp only[aJ] at hs
   simp only[preB] at hb
   split at hs
   ·rename_i cs k n hx hy
    cases hs
    simp only[hy,Bool.and_eq_true,decide_eq_true_eq] at hb
    exact hb
   ·rename_i g e j off k n hx hy
    cases hs
    simp only[hy,Bool.and_eq_true,decide_eq_true_eq] at hb
    exact hb
   ·cases hs
 | sidx x i =>
   simp only[aJ] at hs
   simp only[preB] at hb
   split at hs
   ·rename_i s k n hx hy
    cases hs
    simp only[hx,hy,Bool.and_eq_true,decide_eq_true_eq] at hb
    exact hb
   ·cases hs
 | aidx x i len esz ag =>
   simp only[aJ] at hs
   simp only[preB] at hb
   split at hs
   ·rename_i cs k n hx hy
    cases hs
    simp only[hx,hy,Bool.and_eq_true,decide_eq_true_eq,Bool.or_eq_true] at hb
    exact⟨hb.1.1.1,hb.1.1.2,hb.1.2,fun h=>hb.2.resolve_left (by simp[h])⟩
   ·cases hs
 | slc x esz lo hi mx =>
   simp only[aJ] at hs
   simp only[preB] at hb
   split at hs
   ·rename_i esz' full xs hx
    split at hs
    ·rename_i l h hbd hmx
     cases hs
     simp only[hx,hbd,hmx,Bool.and_eq_true,decide_eq_true_eq,Bool.or_eq_true,List.isEmpty_iff] at hb
     exact⟨hb.1.1.1,hb.1.1.2,hb.1.2,hb.2⟩
    ·rename_i l h m hbd hmx
     cases hs
     simp only[hx,hbd,hmx,Bool.and_eq_true,decide_eq_true_eq,Bool.or_eq_true,List.isEmpty_iff] at hb
     exact⟨hb.1.1.1.1,hb.1.1.1.2,hb.1.1.2,hb.1.2,hb.2⟩
    ·cases hs
   ·rename_i g esz' off len full hx
    split at hs
    ·split at hs
     ·rename_i l h hbd hmx
      cases hs
      simp only[hx,hbd,hmx,Bool.and_eq_true,decide_eq_true_eq] at hb
      exact⟨hb.1.1,hb.1.2,hb.2⟩
     ·rename_i l h m hbd hmx
      cases hs
      simp only[hx,hbd,hmx,Bool.and_eq_true,decide_eq_true_eq] at hb
      exact⟨hb.1.1.1,hb.1.1.2,hb.1.2,hb.2⟩
     ·cases hs
    ·cases hs
   ·cases hs
 | sslc x lo hi =>
   simp only[aJ] at hs
   simp only[preB] at hb
   split at hs
   ·rename_i s hx
    split at hs
    ·rename_i l h hbd
     cases hs
     simp only[hx,hbd,Bool.and_eq_true,decide_eq_true_eq] at hb
     exact⟨hb.1.1,hb.1.2,hb.2⟩
    ·cases hs
   ·cases hs
 | ext x i =>
   simp only[aJ] at hs
   simp only[preB] at hb
   split at hs
   ·rename_i vs hx
    cases hs
    simp only[hx,decide_eq_true_eq] at hb
    exact hb
   ·cases hs
 | app s x esz =>
   simp only[aJ] at hs
   simp only[preB] at hb
   rw[Bool.and_eq_true] at hb
   obtain⟨hb1,hb⟩:=hb
   split at hs
   ·rename_i po xe rd cx hro
    have hpo:=aDx hro hb1
    simp only[hro] at hb
    split at hs
    ·rename_i esz' full xs hgs
     simp only[hgs] at hb
     split at hs
     ·rename_i hnil
      cases hs
      rw[if_pos hnil] at hb
      simp only[Bool.and_eq_true,decide_eq_true_eq,Bool.or_eq_true,List.isEmpty_iff] at hb
      exact⟨hpo,hb.1.1,hb.1.2,hb.2⟩
     rename_i hnil
     rw[if_neg hnil] at hb
     split at hs
     ·cases hs; exact hpo
     ·rename_i hemp
      split at hs
      ·cases hs
       simp only[Bool.and_eq_true,decide_eq_true_eq,Bool.or_eq_true,List.isEmpty_iff] at hb
       have hb:=hb.resolve_left (by simpa using hemp)
       exact⟨hpo,hb.1.1.1.1,hb.1.1.1.2,hb.1.1.2,hb.1.2,hb.2⟩
      ·cases hs
    ·rename_i g esz' off len full hgs
     split at hs
     ·rename_i e he
      simp only[hgs,he,Bool.and_eq_true,decide_eq_true_eq,Bool.or_eq_true,List.isEmpty_iff] at hb
      split at hs
      ·cases hs
      ·split at hs
       ·split at hs
        ·rename_i hf
         cases hs
         simp only[Bool.and_eq_true,Bool.not_eq_true',List.isEmpty_eq_false_iff] at hf
         exact⟨hpo,hb.1.1.resolve_left hf.2,hb.1.2,hb.2⟩
        ·cases hs
       ·cases hs
        exact⟨hpo,hb.1.1,hb.1.2,hb.2⟩
     ·cases hs
    ·cases hs
   ·cases hs
 | appz s n esz z =>
   simp only[aJ] at hs
   simp only[preB] at hb
   split at hs
   ·rename_i e k m h1 h2
    cases hs
    simp only[h2,Bool.and_eq_true,decide_eq_true_eq] at hb
    exact⟨hb.1.1.1,hb.1.1.2,hb.1.2,hb.2⟩
   ·cases hs
 | b2s x =>
   simp only[aJ] at hs
   simp only[preB,Bool.and_eq_true] at hb
   obtain⟨hb1,hb⟩:=hb
   split at hs
   ·cases hs
   ·split at hs
    ·rename_i po xe rd cx hro
     split at hs
     ·cases hs
      simp only[hro,decide_eq_true_eq] at hb
      exact⟨aDx hro hb1,hb⟩
     ·cases hs
    ·cases hs
 | mksl esz z l c =>
   simp only[aJ] at hs
   simp only[preB] at hb
   split at hs
   ·rename_i k1 n k2 m h1 h2
    cases hs
    simp only[h1,h2,Bool.and_eq_true,decide_eq_true_eq] at hb
    exact⟨hb.1.1.1.1,hb.1.1.1.2,hb.1.1.2,hb.1.2,hb.2⟩
   ·cases hs
 | mv x=>simp only[aJ,Option.some.injEq] at hs; subst hs; trivial
 | alloc z=>simp only[aJ,Option.some.injEq] at hs; subst hs; trivial
 | mkfn f a b=>simp only[aJ,Option.some.injEq] at hs; subst hs; trivial
 | mkif t x=>simp only[aJ,Option.some.injEq] at hs; subst hs; trivial
 | nilck x=>simp only[aJ] at hs; split at hs<;>first|(cases hs; done)|(simp only[Option.some.injEq] at hs; subst hs; trivial)
 | un op x=>simp only[aJ] at hs; split at hs<;>first|(cases hs; done)|(simp only[Option.some.injEq] at hs; subst hs; trivial)
 | conv k x=>simp only[aJ] at hs; split at hs<;>first|(cases hs; done)|(simp only[Option.some.injEq] at hs; subst hs; trivial)
 | faddr a n=>simp only[aJ] at hs; split at hs<;>first|(cases hs; done)|(simp only[Option.some.injEq] at hs; subst hs; trivial)
 | len x=>simp only[aJ] at hs; split at hs<;>first|(cases hs; done)|(simp only[Option.some.injEq] at hs; subst hs; trivial)
 | slen x=>simp only[aJ] at hs; split at hs<;>first|(cases hs; done)|(simp only[Option.some.injEq] at hs; subst hs; trivial)
 | cap x=>simp only[aJ] at hs; split at hs<;>first|(cases hs; done)|(simp only[Option.some.injEq] at hs; subst hs; trivial)
 | minmax b x y =>
   simp only[aJ] at hs
   split at hs
   ·split at hs
    ·cases hs; trivial
    ·cases hs
   ·cases hs
 | call _ _=>simp[aJ] at hs
 | dcall _ _=>simp[aJ] at hs
 | nilcmp _ _=>simp[aJ] at hs
 | bad=>simp[aJ] at hs
 | mmk _=>simp[aJ] at hs
 | mset _ _ _ _=>simp[aJ] at hs
 | clr x esz =>
   simp only[aJ] at hs
   simp only[preB] at hb
   split at hs
   ·cases hs; trivial
   ·rename_i g esz' off len full hgs
    simp only[hgs] at hb
    split at hs
    ·rename_i e he
     simp only[he,decide_eq_true_eq] at hb
     split at hs
     ·cases hs
     ·cases hs; exact hb
    ·cases hs
   ·cases hs
end Go.Proofs.YtngjnfbngheccaaGreatDoor.Pv
namespace Go.Proofs.YtngjnfbngheccaaGreatDoor.Pv
open Go Go.RowKit
inductive Res where
 | val (r:PV)
 | own (esz:Nat) (xs:List (List PV))
def akK (key:Key) (get:MO→PV) (hl:Key→Option HE) (i:MI):Option Out :=
 match i with
 | .nilcmp ne x=>match get x with
   | .vec _ _ (_::_)=>some ⟨True,[],.bool (false != ne),[]⟩
   | .own _ _ _ (_+1) _=>some ⟨True,[],.bool (false != ne),[]⟩
   | _=>none
 | i=>match aJ key get hl i with
   | some o=>if preB get hl i then some o else none
   | none=>none
theorem aGn {P:Program} {key:Key} {get:MO→PV} {hl:Key→Option HE} {i:MI} {o:Out} {K:Out→Prop} (h:aJ key get hl i=some o) (hK:K o):qw P key get hl i K:=by
 unfold qw
 split
 ·simp[aJ] at h
 ·simp[aJ] at h
 ·simp[aJ] at h
 ·simp only[h]; exact hK
theorem aJT {P:Program} {key:Key} {get:MO→PV} {hl:Key→Option HE} {i:MI} {o:Out} (h:akK key get hl i=some o):qw P key get hl i fun o'=>o'.pre∧o'=o:=by
 unfold akK at h
 split at h
 ·rename_i ne x
  split at h
  ·rename_i e f y ys hx
   cases h
   simp only[qw,hx]
   intro b hb
   cases b with
   | true=>exact absurd (hb rfl) (by simp)
   | false=>exact⟨trivial,rfl⟩
  ·rename_i g e off n f hx
   cases h
   simp only[qw,hx]
   intro b hb
   cases b with
   | true=>exact absurd (hb rfl) (by simp)
   | false=>exact⟨trivial,rfl⟩
  ·cases h
 ·split at h
  ·rename_i o' ho
   split at h
   ·rename_i hp
    cases h
    exact aGn ho ⟨aIz ho hp,rfl⟩
   ·cases h
  ·cases h
def BIG:Nat:=1000000000000000
def gOf (st:St) (m:MOp):Option Bool:=match m.g with
 | none=>some true
 | some (t,want)=>uJ (lk t st.s) want
def aMG (N:Nat) (m:MOp) (st:St):Option Out:=match m.g with
 | none=>akK (m.dst.getD 0,N) st.get (fun k=>hk k st.h) m.i
 | some (t,want)=>match uJ (lk t st.s) want with
   | none=>none
   | some gb =>
     if m.soft then
      (match aJ (m.dst.getD 0,N) (Zk m.i st.get) (fun k=>hk k st.h) m.i with
      | some o=>if (!gb||preB (Zk m.i st.get) (fun k=>hk k st.h) m.i)&&(m.i.auo||aqn gb st.get m.i.ops)&&o.hu.isEmpty then some ⟨True,o.rd,.opt gb o.r,[]⟩ else none
      | none=>none)
     else if gb then akK (m.dst.getD 0,N) st.get (fun k=>hk k st.h) m.i else some ⟨True,[],ai9,[]⟩
theorem aN4 {P:Program} {N:Nat} {m:MOp} {st:St} {o:Out} (h:aMG N m st=some o):yw P m N st o:=by
 have plain:akK (m.dst.getD 0,N) st.get (fun k=>hk k st.h) m.i=some o→qw P (m.dst.getD 0,N) st.get (fun k=>hk k st.h) m.i fun o'=>o'.pre∧o'=o∧st.put m.dst o'=st.put m.dst o:=fun h =>
  zq (fun o' ho=>⟨ho.1,ho.2,by rw[ho.2]⟩) (aJT (P:=P) h)
 unfold aMG at h
 unfold yw jM
 cases hg:m.g with
 | none =>
   rw[hg] at h
   exact plain h
 | some tw =>
   obtain⟨t,want⟩:=tw
   rw[hg] at h
   simp only at h ⊢
   cases hgb:uJ (lk t st.s) want with
   | none=>rw[hgb] at h; cases h
   | some gb =>
     rw[hgb] at h
     simp only at h ⊢
     by_cases hs:m.soft=true
     ·rw[if_pos hs] at h ⊢
      split at h
      ·rename_i o' ho
       split at h
       ·rename_i hc
        cases h
        simp only[Bool.and_eq_true,Bool.or_eq_true,Bool.not_eq_true',List.isEmpty_iff] at hc
        obtain⟨⟨h1,h2⟩,h3⟩:=hc
        exact aGn ho ⟨fun e=>aIz ho (h1.resolve_left (by simp[e])),(by
         unfold acE
         split
         ·trivial
         ·rename_i hnp
          exact avP _ (h2.resolve_left hnp)),h3,rfl,rfl⟩
       ·cases h
      ·cases h
     ·rw[if_neg hs] at h ⊢
      cases gb with
      | true=>exact⟨fun _=>plain h,fun e=>by cases e⟩
      | false =>
        cases h
        exact⟨fun e=>(by cases e),fun _=>⟨rfl,ahf _ _⟩⟩
def callee (st:St):MI→Option (FuncId × List PV)
 | .call f args=>some (f,args.map st.get)
 | .dcall f args=>match st.get f with
   | .fn fid first caps=>some (fid,first++args.map st.get++caps)
   | _=>none
 | _=>none
def MI.aKI:MI→Bool
 | .call _ _|.dcall _ _=>true
 | _=>false
def ajs (P:Program) (cp:FuncId→List PV→Option Res):Prop :=
 ∀ f args,(∀ r,cp f args=some (.val r)→Ret P f args r)∧∀ esz xs,cp f args=some (.own esz xs)→gU P f args esz xs
def aoz (cp:FuncId→List PV→Option Res) (key:Key) (hl:Key→Option HE) (f:FuncId) (args:List PV):Option Out :=
 if amr hl args then
  (match cp f (og hl args) with
  | some (.val r)=>some (Iw hl args r)
  | some (.own esz xs)=>some (uQ hl args key esz xs)
  | none=>none)
 else none
theorem aFT {P:Program} {cp:FuncId→List PV→Option Res} (hcp:ajs P cp) {key:Key} {hl:Key→Option HE} {f:FuncId} {args:List PV} {o:Out} (h:aoz cp key hl f args=some o):AJ P key hl f args fun o'=>o'.pre∧o'=o:=by
 unfold aoz at h
 split at h
 ·rename_i hok
  split at h
  ·rename_i r hr
   cases h
   exact .inl ⟨r,(hcp _ _).1 r hr,aaL _ hok,rfl⟩
  ·rename_i esz xs hr
   cases h
   exact .inr ⟨esz,xs,(hcp _ _).2 esz xs hr,aaL _ hok,rfl⟩
  ·cases h
 ·cases h
def aya (cp:FuncId→List PV→Option Res) (N:Nat) (m:MOp) (st:St):Option Out :=
 if m.soft then none else
 match gOf st m with
 | some true=>(match callee st m.i with
   | some (f,args)=>aoz cp (m.dst.getD 0,N) (fun k=>hk k st.h) f args
   | none=>none)
 | some false=>some ⟨True,[],ai9,[]⟩
 | none=>none
theorem aHP {P:Program} {key:Key} {hl:Key→Option HE} {f:FuncId} {args:List PV} {K K' : Out→Prop} (h:∀ o,K o→K' o) (hd:AJ P key hl f args K):AJ P key hl f args K':=by
 rcases hd with ⟨r,h1,h2⟩|⟨e,xs,h1,h2⟩
 ·exact .inl ⟨r,h1,h _ h2⟩
 ·exact .inr ⟨e,xs,h1,h _ h2⟩
theorem aJW {P:Program} {cp:FuncId→List PV→Option Res} (hcp:ajs P cp) {N:Nat} {m:MOp} {st:St} {o:Out} (hc:m.i.aKI=true) (h:aya cp N m st=some o):yw P m N st o:=by
 unfold aya at h
 split at h
 ·cases h
 rename_i hsoft
 have hd:∀ f args,callee st m.i=some (f,args)→AJ P (m.dst.getD 0,N) (fun k=>hk k st.h) f args (fun o'=>o'.pre∧o'=o)→qw P (m.dst.getD 0,N) st.get (fun k=>hk k st.h) m.i fun o'=>o'.pre∧o'=o∧st.put m.dst o'=st.put m.dst o:=fun f args hcl hd=>by
  have hd':=aHP (K':=fun o'=>o'.pre∧o'=o∧st.put m.dst o'=st.put m.dst o) (fun o' ho=>by obtain⟨h1,rfl⟩:=ho; exact⟨h1,rfl,rfl⟩) hd
  unfold callee at hcl
  unfold qw
  split at hcl
  ·cases hcl; rename_i heq; simp only[heq]; exact hd'
  ·rename_i heq
   split at hcl
   ·rename_i hf
    cases hcl
    simp only[heq,hf]; exact hd'
   ·cases hcl
  ·cases hcl
 split at h
 ·rename_i hg
  split at h
  ·rename_i f args hcl
   have hdo:=hd f args hcl (aFT hcp h)
   unfold yw jM
   unfold gOf at hg
   split at hg
   ·rename_i hmg
    simp only[hmg]; exact hdo
   ·rename_i t want hmg
    simp only[hmg,hg,if_neg hsoft]
    exact⟨fun _=>hdo,fun e=>by cases e⟩
  ·cases h
 ·rename_i hg
  cases h
  unfold yw jM
  unfold gOf at hg
  split at hg
  ·cases hg
  ·rename_i t want hmg
   simp only[hmg,hg,if_neg hsoft]
   exact⟨fun e=>absurd e (by simp),fun _=>⟨trivial,ahf _ _⟩⟩
 ·cases h
def awe (cp:FuncId→List PV→Option Res) (N:Nat) (m:MOp) (st:St):Option Out:=if m.i.aKI then aya cp N m st else aMG N m st
theorem azn {P:Program} {cp:FuncId→List PV→Option Res} (hcp:ajs P cp) {N:Nat} {m:MOp} {st:St} {o:Out} (h:awe cp N m st=some o):yw P m N st o:=by
 unfold awe at h
 split at h
 ·rename_i hc; exact aJW hcp hc h
 ·exact aN4 h
theorem aHd {P:Program} {m:MOp} {v:Nat} {st:St} {K K' : Out→St→Prop} (h:∀ o s,K o s→K' o s) (hs:jM P m v st K):jM P m v st K':=by
 unfold jM at hs ⊢
 split at hs
 ·exact zq (fun o ho=>⟨ho.1,h _ _ ho.2⟩) hs
 ·split at hs
  ·exact hs.elim
  ·split at hs
   ·rename_i hsoft
    rw[if_pos hsoft]
    exact zq (fun o ho=>⟨ho.1,ho.2.1,ho.2.2.1,h _ _ ho.2.2.2⟩) hs
   ·rename_i hsoft
    rw[if_neg hsoft]
    exact⟨fun e=>zq (fun o ho=>⟨ho.1,h _ _ ho.2⟩) (hs.1 e),fun e=>h _ _ (hs.2 e)⟩
def evD (cp:FuncId→List PV→Option Res) (un:List (Nat × Nat)) (N:Nat):List MOp→List (List Nat × List Nat)→St→Option St
 | [],acc,st=>if agY un acc then some st else none
 | m::ms,acc,st=>if m.i.isNil then none else match awe cp N m st with
   | some o=>evD cp un N ms (acc++[(o.rd,o9 o.hu)]) (st.put m.dst o)
   | none=>none
theorem aKl {P:Program} {cp:FuncId→List PV→Option Res} (hcp:ajs P cp) {un:List (Nat × Nat)} {N:Nat}:∀ (ms:List MOp) (acc:List (List Nat × List Nat)) (st st' : St),evD cp un N ms acc st=some st'→afb P un N ms acc st fun s=>s=st'
 | [],acc,st,st',h=>by
   simp only[evD] at h
   split at h
   ·rename_i hp
    cases h
    exact⟨hp,rfl⟩
   ·cases h
 | m::ms,acc,st,st',h=>by
   simp only[evD] at h
   split at h
   ·cases h
   ·rename_i hn
    split at h
    ·rename_i o ho
     refine⟨?_,aHd (fun o' s hs=>?_) (azn hcp ho)⟩
     ·cases hm:m.i<;>first|trivial|(rw[hm] at hn; exact hn rfl)
     ·obtain⟨rfl,rfl⟩:=hs
      exact aKl hcp ms _ _ _ h
    ·cases h
def Bnd (c:Ctx) (N:Nat):Prop:=∀ k:Key,c.U k→k.2<N∨BIG≤k.2
def aPS (P:Program) (ci:FuncId→List PV→List (Key × Option HE)→Nat→Option (PV × List (Key × Option HE) × Nat)):Prop :=
 ∀ f args h N r h' N',ci f args h N=some (r,h',N')→callable P f=true∧∀ (E:Env) (a:Act) (c:Ctx) (w:World) (vs:List Value) (d:Option Nat) (s:List (Nat × PV)),E.P=P→Good E ⟨s,h⟩ c a w→Bnd c N→aY w c args vs →
   Calls P f vs.toArray w fun e w'=>∃ v,e=.returned v∧∃ c',Good E ⟨JR d r s,h'⟩ c' (a.put d v) w'∧Bnd c' N'
def aRp (mode:FuncId→Bool) (st:St) (i:MI):Bool:=match callee st i with
 | some (f,_)=>mode f
 | none=>false
def aIb (ci:FuncId→List PV→List (Key × Option HE)→Nat→Option (PV × List (Key × Option HE) × Nat)) (N:Nat) (m:MOp) (st:St):Option (St × Nat) :=
 match gOf st m with
 | some true=>(match callee st m.i with
   | some (f,args)=>(match ci f args st.h N with
     | some (r,h',N')=>some (⟨JR m.dst r st.s,h'⟩,N')
     | none=>none)
   | none=>none)
 | some false=>some (st.skip m.dst,N)
 | none=>none
def aNR (mode:FuncId→Bool) (cp:FuncId→List PV→Option Res) (ci:FuncId→List PV→List (Key × Option HE)→Nat→Option (PV × List (Key × Option HE) × Nat)) (N:Nat) (m:MOp) (st:St):Option (St × Nat) :=
 if aRp mode st m.i then aIb ci N m st else if Nat.blt N BIG then (match awe cp N m st with|some o=>some (st.put m.dst o,N+1)|none=>none) else none
def atZ (mode:FuncId→Bool) (cp:FuncId→List PV→Option Res) (ci:FuncId→List PV→List (Key × Option HE)→Nat→Option (PV × List (Key × Option HE) × Nat)):List MOp→St→Nat→Option (St × Nat)
 | [],st,N=>some (st,N)
 | m::ms,st,N=>match aNR mode cp ci N m st with
   | some (st',N')=>atZ mode cp ci ms st' N'
   | none=>none
section
variable {E:Env} {st:St} {c:Ctx} {a:Act} {w:World}
theorem aHn (hg:Good E st c a w) {ops:Array Oper} {soft:Bool} {o:Oper} {m:MOp} (hm:adV E.P E.nt ops soft o=some m) {f:FuncId} {args:List PV} (hc:callee st m.i=some (f,args)) (hcb:callable E.P f=true) {R:Value→World→Prop}
 (h:∀ vs,aY w c args vs→Calls E.P f vs.toArray w fun e w'=>∃ v,e=.returned v∧R v w'):Runs E.P a.eval o w R:=by
 obtain⟨hi,hdst,hgd⟩:=Pq hm
 unfold callee at hc
 split at hc
 ·rename_i f' args' hmi
  cases hc
  rw[hmi] at hi
  obtain⟨cl,ho,hcl,hc,hargs⟩:=ah5 (hi.resolve_right (by simp))
  refine .inr ⟨f,_,?_,h (cl.args.toList.map a.eval) (Yg _ _ _ hargs (fun t x m h _=>hg.get h))⟩
  rw[Yx ho hcl (a:=#[]) (b:=#[]) rfl hcb]
  congr 2
  apply Array.ext'
  simp
 ·rename_i f' args' hmi
  split at hc
  ·rename_i fid first caps hf
   cases hc
   rw[hmi] at hi
   obtain⟨cl,t,ho,hcl,ht,rfl,hargs⟩:=apH (hi.resolve_right (by simp))
   have hft:=hg.get (t:=0) (x:=.tmp t) (m:=.t t) (by simp[toO,ht])
   rw[hf] at hft
   obtain⟨x,y,e1,r1,r2⟩:=hft
   refine .inr ⟨f,_,?_,h (x.toList++cl.args.toList.map a.eval++y.toList) (aY.append (aY.append r1 (Yg _ _ _ hargs (fun t x m h _=>hg.get h))) r2)⟩
   rw[Yx ho hcl (a:=x) (b:=y) e1 hcb]
   congr 2
   apply Array.ext'
   simp
  ·cases hc
 ·cases hc
theorem auw (hg:Good E st c a w) {ops:Array Oper} {soft:Bool} {o:Oper} {m:MOp} (hm:adV E.P E.nt ops soft o=some m) {gb:Bool} (h:gOf st m=some gb):Region.wanted o (yielded ops a.tmps)=gb:=by
 obtain⟨hi,hdst,hgd⟩:=Pq hm
 unfold gOf at h
 rcases hgd with ⟨hg1,hg2⟩|⟨j,want,t,hg1,hg2,hlt,hg3⟩
 ·rw[hg2] at h
  cases h
  simp[Region.wanted,hg1]
 ·rw[hg3] at h
  exact acd hg hg1 hg2 hlt h
theorem ag7 {cp:FuncId→List PV→Option Res} (hcp:ajs E.P cp) {ci:FuncId→List PV→List (Key × Option HE)→Nat→Option (PV × List (Key × Option HE) × Nat)} (hci:aPS E.P ci) {mode:FuncId→Bool} {ops:Array Oper} {soft:Bool} {Q:Exit→Act→World→Prop} {stF:St} {NF:Nat}
 (hQ:∀ c a w,Good E stF c a w→Bnd c NF→Q .normal a w):∀ (l:List Oper) (ms:List MOp) (st:St) (N:Nat) (c:Ctx) (a:Act) (w:World),nU E.P E.nt ops soft l=some ms→atZ mode cp ci ms st N=some (stF,NF)→Good E st c a w→Bnd c N→wpList E.P ops Q l a w
 | [],ms,st,N,c,a,w,h,he,hg,hb=>by
   simp only[nU,Option.some.injEq] at h
   subst h
   simp only[atZ,Option.some.injEq,Prod.mk.injEq] at he
   obtain⟨rfl,rfl⟩:=he
   exact hQ c a w hg hb
 | o::l,ms,st,N,c,a,w,h,he,hg,hb=>by
   simp only[nU] at h
   split at h
   ·rename_i m ms' h1 h2
    cases h
    simp only[atZ] at he
    split at he
    ·rename_i st' N' hone
     unfold wpList
     have hdst:=(Pq h1).2.1
     unfold aNR at hone
     split at hone
     ·
       unfold aIb at hone
       split at hone
       ·rename_i hgo
        split at hone
        ·rename_i f args hcl
         split at hone
         ·rename_i r h' N'' hcall
          cases hone
          obtain⟨hcb,hcc⟩:=hci _ _ _ _ _ _ _ hcall
          rw[if_pos (auw hg h1 hgo)]
          refine .inl (Runs.wp (aHn hg h1 hcl hcb fun vs hr=>Calls.mono (hcc E a c w vs m.dst st.s rfl hg hb hr) ?_))
          rintro e w' ⟨v,hev,c',hg',hb'⟩
          exact⟨v,hev,ag7 hcp hci hQ l ms' _ _ c' _ w' h2 he (by rw[← hdst]; exact hg') hb'⟩
         ·cases hone
        ·cases hone
       ·rename_i hgo
        cases hone
        rw[if_neg (by rw[auw hg h1 hgo]; simp)]
        exact ag7 hcp hci hQ l ms' _ _ c _ w h2 he (hg.put (d:=o.dst) (r:=ai9) (by rw[← hdst]; rfl) (by simpa[St.skip] using hg.hgood) ⟨fun h=>(by cases h),fun _=>rfl⟩ (Ctx.Le.refl c) (d9.refl _ _)) hb
       ·cases hone
     ·split at hone
      ·rename_i hlt
       split at hone
       ·rename_i o' ho'
        cases hone
        have hN:N<BIG:=by simpa[Nat.blt_eq] using hlt
        have hkey:¬ c.U (m.dst.getD 0,N):=fun hu=>by
         rcases hb _ hu with h|h
         ·exact Nat.lt_irrefl _ h
         ·simp only at h; omega
        have hb' : ∀ c' : Ctx,(∀ k:Key,c'.U k→c.U k∨k=(m.dst.getD 0,N))→Bnd c' (N+1):=fun c' hc' k hk=>by
         rcases hc' k hk with h|rfl
         ·exact (hb k h).imp (fun h=>by omega) (fun h=>h)
         ·exact .inl (Nat.lt_succ_self _)
        obtain⟨s1,s2⟩:=agr hg h1 hkey (azn hcp ho')
        split
        ·rename_i hw
         refine .inl (Runs.wp ((s1 hw).mono ?_))
         rintro u w' ⟨_,st'',c',⟨rfl,rfl⟩,hg',hU⟩
         exact ag7 hcp hci hQ l ms' _ _ c' _ w' h2 he hg' (hb' c' hU)
        ·rename_i hw
         obtain⟨_,st'',c',⟨rfl,rfl⟩,hg',hU⟩:=s2 (by simpa using hw)
         exact ag7 hcp hci hQ l ms' _ _ c' _ w h2 he hg' (hb' c' hU)
       ·cases hone
      ·cases hone
    ·cases he
   ·cases h
end
end Go.Proofs.YtngjnfbngheccaaGreatDoor.Pv
namespace Go.Proofs.YtngjnfbngheccaaGreatDoor.Pv
open Go Go.RowKit
def aho (st:St):List RV→Bool
 | []=>true
 | .tmp _::rs=>aho st rs
 | .cell a _ n ag::rs=>(match lk a st.s with
   | .ptr g _ i off=>match hk g st.h with
     | some e=>decide (i<e.xs.length)&&decide (off+n≤(e.xs.getD i []).length)&&(ag||decide (n=1))
     | none=>false
   | _=>false)&&aho st rs
theorem aiT {st:St}:∀ rs,aho st rs=true→Ji st rs
 | [],_=>trivial
 | .tmp _::rs,h=>aiT rs h
 | .cell a t n ag::rs,h=>by
   simp only[aho,Bool.and_eq_true] at h
   refine⟨?_,aiT rs h.2⟩
   have h1:=h.1
   split at h1
   ·rename_i g esz i off hx
    split at h1
    ·rename_i e he
     simp only[Bool.and_eq_true,decide_eq_true_eq,Bool.or_eq_true] at h1
     simp only[hx,he]
     exact⟨h1.1.1,h1.1.2,fun h=>h1.2.resolve_left (by simp[h])⟩
    ·cases h1
   ·cases h1
def axW (hl:Key→Option HE) (r:PV):Option Res:=if apw hl r then some (.val (reify hl r)) else none
def aGF (hl:Key→Option HE) (r:PV):Option Res:=match r with
 | .own g esz off len _=>(match hl g with
   | some e=>if !e.fz&&!e.bx&&decide (off+len≤e.xs.length) then some (.own esz ((e.xs.drop off).take len)) else axW hl r
   | none=>none)
 | r=>axW hl r
def ajb:Ex→Bool
 | .normal|.ret=>true
 | _=>false
abbrev Tab:=FuncId→Option (MC × Nat × List RV)
abbrev Evn:=MC→St→Nat→Option (Ex × St × Nat)
abbrev Ext:=FuncId→List PV→Option Res
def ayZ (T:Tab) (evn:Evn) (f:FuncId) (args:List PV):Option Res:=match T f with
 | some (m,nt,rs)=>if Nat.ble args.length nt then (match evn m (St.init args) 0 with
   | some (ex,st,_)=>if ajb ex&&aho st rs then aGF (fun k=>hk k st.h) (oZ st rs) else none
   | none=>none) else none
 | none=>none
def aJ0 (X:Ext) (T:Tab) (evn:Evn) (f:FuncId) (args:List PV):Option Res:=match X f args with
 | some r=>some r
 | none=>ayZ T evn f args
def aNb (T:Tab) (evn:Evn) (f:FuncId) (args:List PV) (h:List (Key × Option HE)) (N:Nat):Option (PV × List (Key × Option HE) × Nat):=match T f with
 | some (m,nt,rs)=>if Nat.ble args.length nt then (match evn m ⟨(St.init args).s,h⟩ N with
   | some (ex,st,N')=>if ajb ex&&aho st rs then some (oZ st rs,st.h,N') else none
   | none=>none) else none
 | none=>none
def ev (X:Ext) (T:Tab) (mode:FuncId→Bool):Nat→MC→St→Nat→Option (Ex × St × Nat)
 | 0,_,_,_=>none
 | n+1,m,st,N=>match m with
   | .skip=>some (.normal,st,N)
   | .reg ms=>(match atZ mode (aJ0 X T (ev X T mode n)) (aNb T (ev X T mode n)) ms st N with
     | some (st',N')=>some (.normal,st',N')
     | none=>none)
   | .draw un ms=>if Nat.blt N BIG then (match evD (aJ0 X T (ev X T mode n)) un N ms [] st with
     | some st'=>some (.normal,st',N+1)
     | none=>none) else none
   | .seq x y=>(match ev X T mode n x st N with
     | some (.normal,st',N')=>ev X T mode n y st' N'
     | r=>r)
   | .cond c x y=>(match st.get c with
     | .bool true=>ev X T mode n x st N
     | .bool false=>ev X T mode n y st N
     | _=>none)
   | .block id x=>(match ev X T mode n x st N with
     | some (.exit j,st',N')=>if j=id then some (.normal,st',N') else some (.exit j,st',N')
     | r=>r)
   | .loop x=>(match ev X T mode n x st N with
     | some (.normal,st',N')=>ev X T mode n (.loop x) st' N'
     | r=>r)
   | .exit id=>some (.exit id,st,N)
   | .ret=>some (.ret,st,N)
   | .label _=>some (.normal,st,N)
   | .goto l=>some (.goto l,st,N)
   | .scope x=>(match ev X T mode n x st N with
     | some (.goto _,_,_)=>none
     | r=>r)
   | .bad=>none
   | .cut _=>none
def axr (P:Program) (evn:Evn):Prop :=
 ∀ (E:Env) (c:Code) (m:MC) (st:St) (N:Nat) (ex:Ex) (st' : St) (N' : Nat) (c0:Ctx) (a:Act) (w:World),E.P=P→dW E.P E.nt c=some m→evn m st N=some (ex,st',N')→Good E st c0 a w→Bnd c0 N →
   c.wp E.P (fun e a' w'=>e=Ex.to ex∧∃ c',Good E st' c' a' w'∧Bnd c' N') a w
theorem aOE {P:Program} {f nt:Nat} {m:MC} {rs:List RV} {args:List PV} {evn:Evn} (hev:axr P evn) (hm:av P f=some (m,nt,rs)) (hn:args.length≤nt) {ex:Ex} {st:St} {N:Nat} (he:evn m (St.init args) 0=some (ex,st,N)) (hex:ajb ex=true) (hr:aho st rs=true) :
 (∀ r,aGF (fun k=>hk k st.h) (oZ st rs)=some (.val r)→Ret P f args r)∧∀ esz xs,aGF (fun k=>hk k st.h) (oZ st rs)=some (.own esz xs)→gU P f args esz xs:=by
 have hro:=aiT rs hr
 have run:∀ (Q:Ex→St→Prop),(∀ e,ajb e=true→Q e st)→∀ c,dW P nt c=some m→∀ w0 F0 (hG:GOk P w0 F0) a,Good ⟨P,w0,F0,nt,[],0,hG⟩ (St.init args) (GY F0) a w0→c.wp P (aJJ ⟨P,w0,F0,nt,[],0,hG⟩ Q) a w0:=fun Q hQ c hc w0 F0 hG a hg=>by
  refine wp_mono (hev ⟨P,w0,F0,nt,[],0,hG⟩ c m _ 0 ex st N (GY F0) a w0 rfl hc he hg (fun k hk=>hk.elim)) ?_
  rintro e a' w' ⟨rfl,c',hg',_⟩
  exact⟨ex,st,rfl,hQ ex hex,c',hg'⟩
 have val:∀ r,axW (fun k=>hk k st.h) (oZ st rs)=some (.val r)→Ret P f args r:=fun r hf=>by
  unfold axW at hf
  split at hf
  ·rename_i hok
   cases hf
   refine Ret.of_wp hm hn (run _ (fun e he=>?_))
   cases e<;>first|exact⟨hro,aqf _ hok,rfl⟩|(simp[ajb] at he)
  ·cases hf
 have noown:∀ esz xs,axW (fun k=>hk k st.h) (oZ st rs)=some (.own esz xs)→False:=fun esz xs hf=>by
  unfold axW at hf
  split at hf<;>cases hf
 refine⟨fun r hf=>?_,fun esz xs hf=>?_⟩
 ·unfold aGF at hf
  split at hf
  ·split at hf
   ·split at hf
    ·cases hf
    ·exact val r hf
   ·cases hf
  ·exact val r hf
 ·unfold aGF at hf
  split at hf
  ·rename_i g esz' off len full hx
   split at hf
   ·rename_i e he'
    split at hf
    ·rename_i hc
     cases hf
     simp only[Bool.and_eq_true,Bool.not_eq_true',decide_eq_true_eq] at hc
     have this:aDg (fun k=>hk k st.h) esz ((e.xs.drop off).take len) (oZ st rs):=by
      rw[hx]
      refine⟨rfl,?_⟩
      simp only at he'
      simp only[he']
      exact⟨hc.1.1,hc.1.2,hc.2,trivial⟩
     refine gU.of_wp hm hn (run _ (fun e1 he1=>?_))
     cases e1<;>first|exact⟨hro,this⟩|(simp[ajb] at he1)
    ·exact (noown _ _ hf).elim
   ·cases hf
  ·exact (noown _ _ hf).elim
theorem aH6 {P:Program} {T:Tab} (hT:∀ f m nt rs,T f=some (m,nt,rs)→av P f=some (m,nt,rs)) {evn:Evn} (hev:axr P evn):ajs P (ayZ T evn):=fun f args=>by
 have key:∀ res,ayZ T evn f args=some res→(∀ r,res=.val r→Ret P f args r)∧∀ esz xs,res=.own esz xs→gU P f args esz xs:=fun res h=>by
  unfold ayZ at h
  split at h
  ·rename_i m nt rs ht
   split at h
   ·rename_i hle
    split at h
    ·rename_i ex st N he
     split at h
     ·rename_i hc
      simp only[Bool.and_eq_true] at hc
      obtain⟨k1,k2⟩:=aOE hev (hT _ _ _ _ ht) (Nat.le_of_ble_eq_true hle) he hc.1 hc.2
      exact⟨fun r hr=>k1 r (by rw[← hr]; exact h),fun esz xs hr=>k2 esz xs (by rw[← hr]; exact h)⟩
     ·cases h
    ·cases h
   ·cases h
  ·cases h
 exact⟨fun r h=>(key _ h).1 r rfl,fun esz xs h=>(key _ h).2 esz xs rfl⟩
theorem aN6 {P:Program} {X:Ext} (hX:ajs P X) {T:Tab} (hT:∀ f m nt rs,T f=some (m,nt,rs)→av P f=some (m,nt,rs)) {evn:Evn} (hev:axr P evn):ajs P (aJ0 X T evn):=fun f args=>by
 have h1:=hX f args
 have h2:=aH6 hT hev f args
 unfold aJ0
 cases hx:X f args with
 | some r=>rw[hx] at h1; exact h1
 | none=>exact h2
theorem aNX {P:Program} {T:Tab} (hT:∀ f m nt rs,T f=some (m,nt,rs)→av P f=some (m,nt,rs)) {evn:Evn} (hev:axr P evn):aPS P (aNb T evn):=fun f args h N r h' N' hc=>by
 unfold aNb at hc
 split at hc
 ·rename_i m nt rs ht
  split at hc
  ·rename_i hle
   split at hc
   ·rename_i ex st N'' he
    split at hc
    ·rename_i hend
     cases hc
     simp only[Bool.and_eq_true] at hend
     have hro:=aiT rs hend.2
     obtain⟨fn,c0,hf,hcb,hb,hnt,htm,hrs⟩:=JI (hT _ _ _ _ ht)
     subst hnt
     refine⟨hcb,fun E a c w vs d s hP hg hbd hr=>?_⟩
     subst hP
     refine calls_of_wp hf hb ?_
     refine wp_mono (hev ⟨E.P,E.w0,E.F0,fn.ntmps,adJ E s a,E.V,E.glob⟩ c0 m _ N ex st N' c _ w rfl htm he (aes hg hr (Nat.le_of_ble_eq_true hle)) hbd) ?_
     rintro e a' w' ⟨rfl,c',hg',hb'⟩
     have key:a'.defers=[]∧∃ v,(results fn a'.tmps).run E.P w'=.ok v w'∧∃ v',Ending.returned v=.returned v'∧∃ c'',Good E ⟨JR d (oZ st rs) s,st.h⟩ c'' (a.put d v') w'∧Bnd c'' N':=by
      obtain⟨v,k1,k2⟩:=Jo hg' hrs hro
      exact⟨hg'.defers,v,k1,v,rfl,c',alh hg hg' k2,hb'⟩
     cases ex with
     | normal=>exact key
     | ret=>exact key
     | exit id=>simp[ajb] at hend
     | goto l=>simp[ajb] at hend
    ·cases hc
   ·cases hc
  ·cases hc
 ·cases hc
theorem arF {P:Program} {X:Ext} {T:Tab} {mode:FuncId→Bool} {E:Env} (hP:E.P=P) {x:Code} {mx:MC} (hx:dW E.P E.nt x=some mx) {ex:Ex} {st' : St} {N' : Nat}:∀ (n:Nat),(∀ k,k<n→axr P (ev X T mode k))→∀ (st:St) (N:Nat) (c0:Ctx) (a:Act) (w:World),
 ev X T mode n (.loop mx) st N=some (ex,st',N')→Good E st c0 a w→Bnd c0 N→Code.rounds E.P x (fun e a' w'=>e=Ex.to ex∧∃ c',Good E st' c' a' w'∧Bnd c' N') n a w
 | 0,_,st,N,c0,a,w,he,_,_=>by simp[ev] at he
 | n+1,hall,st,N,c0,a,w,he,hg,hb=>by
   rw[rounds_succ]
   simp only[ev] at he
   have ih:=hall n (Nat.lt_succ_self n)
   split at he
   ·rename_i st1 N1 hx1
    refine wp_mono (ih E x mx st N _ _ _ c0 a w hP hx hx1 hg hb) ?_
    rintro e a' w' ⟨rfl,c1,hg1,hb1⟩
    exact arF hP hx n (fun k hk=>hall k (Nat.lt_succ_of_lt hk)) st1 N1 c1 a' w' he hg1 hb1
   ·rename_i r hne
    refine wp_mono (ih E x mx st N _ _ _ c0 a w hP hx he hg hb) ?_
    rintro e a' w' ⟨rfl,hrest⟩
    cases ex with
    | normal=>exact (hne _ _ he).elim
    | exit i=>exact⟨rfl,hrest⟩
    | goto l=>exact⟨rfl,hrest⟩
    | ret=>exact⟨rfl,hrest⟩
theorem aQe {P:Program} {X:Ext} (hX:ajs P X) {T:Tab} (ah:P.follows .mixedOrders=true) (hT:∀ f m nt rs,T f=some (m,nt,rs)→av P f=some (m,nt,rs)) {mode:FuncId→Bool}:∀ n,axr P (ev X T mode n):=by
 intro n
 induction n using Nat.strongRecOn with
 | _ n ihs =>
 cases n with
 | zero=>intro E c m st N ex st' N' c0 a w hP hc he; simp[ev] at he
 | succ n =>
   have ih:=ihs n (Nat.lt_succ_self n)
   intro E c m st N ex st' N' c0 a w hP hc he hg hb
   subst hP
   have hcp:=aN6 hX hT ih
   have hci:=aNX hT ih
   cases c with
   | skip =>
     simp only[dW,Option.some.injEq] at hc
     subst hc
     simp only[ev,Option.some.injEq,Prod.mk.injEq] at he
     obtain⟨rfl,rfl,rfl⟩:=he
     exact wp_skip ⟨rfl,c0,hg,hb⟩
   | region id ops d =>
     simp only[dW] at hc
     split at hc
     ·rename_i ms hops
      cases d with
      | true =>
        simp only[if_true] at hc
        split at hc
        ·rename_i hok
         cases hc
         simp only[ev] at he
         split at he
         ·rename_i hlt
          have hN:N<BIG:=by simpa[Nat.blt_eq] using hlt
          split at he
          ·rename_i st1 hd
           simp only[Option.some.injEq,Prod.mk.injEq] at he
           obtain⟨rfl,rfl,rfl⟩:=he
           refine aHV ah hops hok hN (aKl hcp _ _ _ _ hd) hg hb (fun s c1 a1 w1 hs hg1 hb1=>?_)
           subst hs
           exact⟨rfl,c1,hg1,fun k hk=>(hb1 k hk).imp Nat.lt_succ_of_le (fun h=>h)⟩
          ·cases he
         ·cases he
        ·cases hc
      | false =>
        simp only[Bool.false_eq_true,if_false,Option.some.injEq] at hc
        subst hc
        simp only[ev] at he
        split at he
        ·rename_i st1 N1 hrun
         simp only[Option.some.injEq,Prod.mk.injEq] at he
         obtain⟨rfl,rfl,rfl⟩:=he
         exact wp_region_list (ag7 hcp hci (fun c1 a1 w1 hg1 hb1=>⟨rfl,c1,hg1,hb1⟩) _ _ _ _ _ _ _ hops hrun hg hb)
        ·cases he
     ·cases hc
   | seq x y =>
     simp only[dW] at hc
     split at hc
     ·rename_i mx my h1 h2
      cases hc
      simp only[ev] at he
      split at he
      ·rename_i st1 N1 hx
       refine wp_seq (wp_mono (ih E x mx st N _ _ _ c0 a w rfl h1 hx hg hb) ?_)
       rintro e a' w' ⟨rfl,c1,hg1,hb1⟩
       exact ih E y my _ _ _ _ _ c1 a' w' rfl h2 he hg1 hb1
      ·rename_i r hne
       refine wp_seq (wp_mono (ih E x mx st N _ _ _ c0 a w rfl h1 he hg hb) ?_)
       rintro e a' w' ⟨rfl,hrest⟩
       cases ex with
       | normal=>exact (hne _ _ he).elim
       | exit i=>exact⟨rfl,hrest⟩
       | goto l=>exact⟨rfl,hrest⟩
       | ret=>exact⟨rfl,hrest⟩
     ·cases hc
   | cond q x y =>
     simp only[dW] at hc
     split at hc
     ·rename_i mc mx my h0 h1 h2
      cases hc
      have hq:=hg.get h0
      simp only[ev] at he
      split at he
      ·rename_i hb1
       rw[hb1] at hq
       exact wp_cond_true hq (ih E x mx _ _ _ _ _ c0 a w rfl h1 he hg hb)
      ·rename_i hb1
       rw[hb1] at hq
       exact wp_cond_false hq (ih E y my _ _ _ _ _ c0 a w rfl h2 he hg hb)
      ·cases he
     ·cases hc
   | block id x =>
     simp only[dW,Option.map_eq_some_iff] at hc
     obtain⟨mx,h1,rfl⟩:=hc
     simp only[ev] at he
     split at he
     ·rename_i j st1 N1 hx
      refine wp_block (wp_mono (ih E x mx st N _ _ _ c0 a w rfl h1 hx hg hb) ?_)
      rintro e a' w' ⟨rfl,c1,hg1,hb1⟩
      simp only[Ex.to,Exit.inBlock]
      split at he
      ·rename_i hj
       simp only[Option.some.injEq,Prod.mk.injEq] at he
       obtain⟨rfl,rfl,rfl⟩:=he
       rw[if_pos hj]
       exact⟨rfl,c1,hg1,hb1⟩
      ·rename_i hj
       simp only[Option.some.injEq,Prod.mk.injEq] at he
       obtain⟨rfl,rfl,rfl⟩:=he
       rw[if_neg hj]
       exact⟨rfl,c1,hg1,hb1⟩
     ·rename_i r hne
      refine wp_block (wp_mono (ih E x mx st N _ _ _ c0 a w rfl h1 he hg hb) ?_)
      rintro e a' w' ⟨rfl,hrest⟩
      cases ex with
      | normal=>exact⟨rfl,hrest⟩
      | exit i=>exact (hne _ _ _ he).elim
      | goto l=>exact⟨rfl,hrest⟩
      | ret=>exact⟨rfl,hrest⟩
   | loop x =>
     have hc':=hc
     simp only[dW,Option.map_eq_some_iff] at hc
     obtain⟨mx,h1,rfl⟩:=hc
     exact wp_loop_rounds _ (arF rfl h1 (n+1) ihs st N c0 a w he hg hb)
   | exit id =>
     simp only[dW,Option.some.injEq] at hc
     subst hc
     simp only[ev,Option.some.injEq,Prod.mk.injEq] at he
     obtain⟨rfl,rfl,rfl⟩:=he
     exact wp_exit ⟨rfl,c0,hg,hb⟩
   | ret =>
     simp only[dW,Option.some.injEq] at hc
     subst hc
     simp only[ev,Option.some.injEq,Prod.mk.injEq] at he
     obtain⟨rfl,rfl,rfl⟩:=he
     exact wp_ret ⟨rfl,c0,hg,hb⟩
   | label l =>
     simp only[dW,Option.some.injEq] at hc
     subst hc
     simp only[ev,Option.some.injEq,Prod.mk.injEq] at he
     obtain⟨rfl,rfl,rfl⟩:=he
     exact wp_label ⟨rfl,c0,hg,hb⟩
   | goto l =>
     simp only[dW,Option.some.injEq] at hc
     subst hc
     simp only[ev,Option.some.injEq,Prod.mk.injEq] at he
     obtain⟨rfl,rfl,rfl⟩:=he
     exact wp_goto ⟨rfl,c0,hg,hb⟩
   | scope x =>
     simp only[dW,Option.map_eq_some_iff] at hc
     obtain⟨mx,h1,rfl⟩:=hc
     simp only[ev] at he
     split at he
     ·cases he
     ·rename_i r hne
      refine wp_scope_straight (wp_mono (ih E x mx st N _ _ _ c0 a w rfl h1 he hg hb) ?_)
      rintro e a' w' ⟨rfl,hrest⟩
      cases ex with
      | normal=>exact⟨rfl,hrest⟩
      | exit i=>exact⟨rfl,hrest⟩
      | goto l=>exact (hne _ _ _ he).elim
      | ret=>exact⟨rfl,hrest⟩
   | _ =>
     simp only[dW,Option.some.injEq] at hc
     subst hc
     simp[ev] at he
end Go.Proofs.YtngjnfbngheccaaGreatDoor.Pv

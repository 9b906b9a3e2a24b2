/- Part 17. -/
import Derived.Test.YtfilonnphgnplaaGreatDoorProg
import Derived.WalkKit
import Derived.Deep.LoopGhost
import Derived.Deep.RegionLaw
import Derived.Shelf.RegionOpenPlain
import Derived.Lib.Walk
import Derived.Sort.WalkB12
import Derived.Lib.SliceRun
import Derived.Deep.MidRow
import Derived.Test.YtfilonnphgnplaaGreatDoorB16
set_option linter.unusedSimpArgs false
set_option linter.unusedVariables false
namespace Go.Proofs.YtfilonnphgnplaaGreatDoor
open Go Go.RowKit Go.Shelf Go.Lib
def objOk (P:Program) (t:TypeId):Bool:=match P.info? t with
 | some i=>i.size == 12&&(match i.zero with|some z=>z.cells.size == 12&&z.cells.toList.all (·.oneCell')|none=>false)
 | none=>false
theorem objOk_spec {P:Program} {t:TypeId} (h:objOk P t=true):∃ i z,P.info? t=some i∧i.size=12∧i.zero=some z∧z.cells.size=12∧∀ u∈z.cells.toList,u.oneCell'=true:=by
 unfold objOk at h
 split at h
 ·rename_i i hi
  simp only[Bool.and_eq_true,beq_iff_eq] at h
  obtain⟨h1,h2⟩:=h
  split at h2
  ·rename_i z hz
   simp only[Bool.and_eq_true,beq_iff_eq,List.all_eq_true] at h2
   exact⟨i,z,hi,h1,hz,h2.1,h2.2⟩
  ·cases h2
 ·cases h
theorem run_clear_one {P:Program} (w:World) (t e ty:TypeId) (i:TypeInfo) (z:Value) (ht:P.underlying t=some (.slice e)) (hi:P.info? e=some i) (hz:i.zero=some z) (hs:z.cells.size=12) (h1:∀ u∈z.cells.toList,u.oneCell'=true) (b o c:Nat)
 (hc:∀ j,j<12→(w.cell? ⟨b,o+j,none⟩).isSome=true) (hf:∀ j,j<12→w.frozen? ⟨b,o+j,none⟩=false) :
 (Builtin.clear_ #[t] ty #[.slice (some ⟨b,o,none⟩) 1 c]).run P w=.ok (.tuple #[]) (w.setCells b o (Builtin.zeroCells z.cells 1).toList):=by
 have hzl:(Builtin.zeroCells z.cells 1).toList.length=12:=by simp[Builtin.zeroCells,hs]
 have hst:=run_storeCells_cells (P:=P) b o (Builtin.zeroCells z.cells 1).toList 0 w (by rw[hzl]; simpa using hc) (by rw[hzl]; simpa using hf) (by
  intro v hv
  simp only[Builtin.zeroCells,Array.toList_map,List.mem_map] at hv
  obtain⟨j,hj,rfl⟩:=hv
  have hj' : j<12:=by simpa[hs] using hj
  have:j % z.cells.size<z.cells.size:=Nat.mod_lt _ (by omega)
  rw[getElem!_pos z.cells _ this]
  exact h1 _ (by simp))
 simp only[Nat.add_zero] at hst
 simp[Builtin.clear_,run_underlying ht,zeroValue,typeInfo,hi,hz,hst]
theorem t28:Tryz.prog.underlying 28=some (.slice 57):=by kernel_rfl
theorem ok57:objOk Tryz.prog 57=true:=by kernel_rfl
theorem mixd:Tryz.prog.follows .mixedOrders=true:=by kernel_rfl
set_option maxHeartbeats 4000000 in
set_option maxRecDepth 1000000 in
theorem del_cells (blk off cap n i j:Nat) (news:List Value) (w:World) (hj:j=i+1) (hi:i<n) (hcap:n≤cap) (hm:cap≤9223372036854775807) (hnl:news.length=(n-j)*12) (hn1:∀ u∈news,u.oneCell'=true)
 (hsrc:∀ (k:Nat) (u:Value),news[k]? = some u→w.cell? ⟨blk,off+j*12+k,none⟩=some u) (hroom:∀ k,k<n*12→(w.cell? ⟨blk,off+k,none⟩).isSome=true∧w.frozen? ⟨blk,off+k,none⟩=false) :
 Calls Tryz.prog 278 #[.slice (some ⟨blk,off,none⟩) n cap,.int .i64 i,.int .i64 j] w fun e w'=>e=.returned (.slice (some ⟨blk,off,none⟩) (i+(n-j)) cap)∧∃ zs,w'=(w.drew.setCells blk (off+i*12) news).setCells blk (off+(i+(n-j))*12) zs:=by
 have mixed:=mixd
 have hic:i≤cap:=by omega
 have hjc:j≤cap:=by omega
 have hne:¬ i=j:=by omega
 have hij:i≤j:=by omega
 have hjn:j≤n:=by omega
 obtain⟨i0,z0,hi0,hz1,hz2,hz3,hz4⟩:=objOk_spec ok57
 have t28:=t28
 obtain⟨A,hA,hs⟩ : ∃ A:Addr,(if cap=j then some (⟨blk,off,none⟩ : Addr) else some ⟨blk,off+j*12,none⟩)=some A∧Hid (∀ t u,news[t]? = some u→w.drew.cell? (A.add t)=some u):=by
  by_cases h:cap=j
  ·refine⟨⟨blk,off,none⟩,by simp[h],fun t u hu=>?_⟩
   have h0:news.length=0:=by rw[hnl,show n-j=0 by omega]
   rw[List.length_eq_zero_iff.1 h0] at hu
   simp at hu
  ·refine⟨⟨blk,off+j*12,none⟩,by simp[h],fun t u hu=>?_⟩
   rw[Addr.add_lit]
   exact hsrc t u hu
 have s1:Hid (news.length=(n-j)*12):=hnl
 have s2:Hid (∀ u∈news,u.oneCell'=true):=hn1
 have s3:Hid (∀ t,t<news.length→(w.drew.cell? ⟨blk,off+i*12+t,none⟩).isSome=true∧w.drew.frozen? ⟨blk,off+i*12+t,none⟩=false):=fun t ht=>by
  rw[hnl] at ht
  have:=hroom (i*12+t) (by omega)
  rw[← Nat.add_assoc] at this
  exact this
 obtain⟨W1,hW1⟩ : ∃ W1,W1=w.drew.setCells blk (off+i*12) news:=⟨_,rfl⟩
 have hcells:∀ k,k<n*12→(W1.cell? ⟨blk,off+k,none⟩).isSome=true∧W1.frozen? ⟨blk,off+k,none⟩=false:=fun k hk=>by
  have h0:=hroom k hk
  rw[hW1]
  refine⟨World.isSome_setCells _ _ _ _ _ h0.1,?_⟩
  rw[World.frozen?_setCells]; exact h0.2
 have hone:n-(i+(n-j))=1:=by omega
 have hcl:∀ ty c,(Builtin.clear_ #[28] ty #[.slice (some ⟨blk,off+(i+(n-j))*12,none⟩) (n-(i+(n-j))) c]).run Tryz.prog W1=.ok (.tuple #[]) (W1.setCells blk (off+(i+(n-j))*12) (Builtin.zeroCells z0.cells 1).toList):=by
  rw[hone]
  exact fun ty c=>run_clear_one W1 28 57 ty i0 z0 t28 hi0 hz2 hz3 hz4 _ _ _
   (fun k hk=>by have:=(hcells ((i+(n-j))*12+k) (by omega)).1; rwa [← Nat.add_assoc] at this)
   (fun k hk=>by have:=(hcells ((i+(n-j))*12+k) (by omega)).2; rwa [← Nat.add_assoc] at this)
 generalize (Builtin.zeroCells z0.cells 1).toList=zs at hcl
 have hW:Hid (W1=w.drew.setCells blk (off+i*12) news):=hW1
 have hle:i+(n-j)≤n:=by omega
 have hlt:i+(n-j)<cap:=by omega
 have hj' : Hid (j=i+1):=hj
 clear hW1 hnl hn1 hsrc hroom hcells hj hone hz2 hz3 hz4
 go_enter Tryz.func278,Tryz.ntmps278
 go_wp2_with fail
 go_region_law_o (refine step_append_room rfl (.tmp 22) (.tmp 25) 28 rfl 57 i0 12 t28 hi0 hz1 blk off i cap (by simp[Act.eval,Act.put]) A (n-j) (cap-j) news (by simp[Act.eval,Act.put]) s1.out hs.out s2.out (by omega) s3.out ?_; rw[← hW.out])
 go_wp2
 go_ret
 exact⟨rfl,zs,by rw[hW.out]⟩
end Go.Proofs.YtfilonnphgnplaaGreatDoor
namespace Go.Proofs.YtfilonnphgnplaaGreatDoor.Pv
open Go Go.Tidy Go.Maps Go.RowKit
theorem sorts_in (m:Nat):AnyZ.SortsIn Tryz.prog Tryz.sortedA_ren Fence.wide m :=
 ⟨fun blk off cap ss W hH hblk hsz=>callsIn_wide.2 (AnyM.slices_Sort_string Tryz.sortA blk off cap ss W hH hblk hsz),
  fun p cap W=>callsIn_wide.2 (AnyM.slices_Sort_string_none Tryz.sortA p cap W)⟩
theorem keys_ok:SortedKeys prog 164 9 3 M.F_maps_Keys_int M.F_slices_Sorted_string:=by
 refine⟨by kernel_rfl,by kernel_rfl,⟨by kernel_rfl,by kernel_rfl,by kernel_rfl⟩,fun w b n es hown hlen=>?_⟩
 have hsz:Maps.size (.map es:DataW Unit)≤34359738368:=hlen
 have hbl:=hown.lt
 have cK:CallsIn Fence.wide 5 Tryz.prog 158 #[.map (some b)] w fun e w'=>e=.returned (.func (.func 225) #[] #[.pointer (some ⟨w.heap.size,0,none⟩)])∧w'=w.alloc (.cells #[.map (some b)] 164):=AnyZ.keys_in Tryz.keysA Fence.wide 5 trivial rfl (some b) w
 refine Calls.mono ((callsIn_wide (n:=5)).1 cK) ?_
 rintro e w' ⟨rfl,rfl⟩
 refine⟨_,rfl,(Below.refl _ w).alloc (Nat.le_refl _) _,?_⟩
 have hseq:SeqGives Fence.wide 2 Tryz.prog 225 #[.pointer (some ⟨w.heap.size,0,none⟩)] Go.Proofs.encStr (fun ss=>ss.Perm (strKeys (.map es:DataW Unit))) (Maps.size (.map es:DataW Unit)) (w.alloc (.cells #[.map (some b)] 164)) :=
  AnyZ.keys_gives (ρ:=Tryz.keysA_ren) { Tryz.keysA with } Fence.wide _ trivial rfl (by omega) w.heap.size b n (.map es) _ (by simp) (by simp) (by
   obtain⟨es',clock,hb,Ft,hs,hD⟩:=hown
   exact⟨es',clock,(Below.heap_alloc _ _ b hbl).trans hb,Ft,hs,hD⟩)
 have cS:=AnyZ.sorted_in Tryz.sortedA Fence.wide 5 trivial trivial trivial trivial rfl (by omega) (sorts_in _) (enters_of Tryz.func155 (by kernel_rfl) rfl) 225 #[.pointer (some ⟨w.heap.size,0,none⟩)] trivial (enters_of Tryz.func225 (by kernel_rfl) rfl) _ _ (by unfold maxLen; omega) (by omega) _ hseq
 change CallsIn _ _ Tryz.prog 157 _ _ _ at cS
 refine Calls.mono ((callsIn_wide (n:=5)).1 cS) ?_
 rintro e w' ⟨v,ss,rfl,hS,hrow,hnil,hb⟩
 exact⟨v,ss,rfl,hS,hrow,hb⟩
theorem libOk:LibOk:=⟨⟨9,3,keys_ok⟩,⟨by kernel_rfl,fun blk off cap n i j news w a b c d e f g h=>del_cells blk off cap n i j news w a b c d e f g h⟩⟩
end Go.Proofs.YtfilonnphgnplaaGreatDoor.Pv

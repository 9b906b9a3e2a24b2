/- Part 13. -/
import Derived.Test.YtfilonnphgnplaaGreatDoorC12
import Derived.Test.YtfilonnphgnplaaGreatDoorProg
import Derived.WalkKit
import Derived.WalkMore
import Derived.Below
import Derived.Shelf.Unicode.ValidAny
import Derived.Shelf.SlIter.Nil
import Derived.Shelf.SortM.Plain
import Derived.Shelf.SortM.SortNone
import Derived.Shelf.SlicesG.CompactS
import Derived.Ground.GgzProg
import Derived.Ground.SlgmProg
import Derived.Ground.SlgnProg
import Derived.Ground.NamesProg
set_option linter.unusedSimpArgs false
set_option linter.unusedVariables false
set_option maxRecDepth 100000
namespace Go.Proofs.YtfilonnphgnplaaGreatDoor.Pv
open Go Go.Tidy
theorem filter_take {α:Type} (p:α→Bool) {l:List α} {k:Nat} (hk:k<l.length):(l.take (k+1)).filter p=if p l[k] then (l.take k).filter p++[l[k]] else (l.take k).filter p:=by
 rw[List.take_add_one,List.getElem?_eq_getElem hk]
 simp only[Option.toList_some,List.filter_append,List.filter_cons,List.filter_nil]
 split<;>simp
theorem trip_len {o:Ob} (h1:o.names.length=o.fields.length) (h2:o.names.length=o.must.length):(tripO o).length=o.names.length:=by unfold tripO; simp; omega
theorem trip_get {o:Ob} {k:Nat} (h1:k<o.names.length) (h2:k<o.fields.length) (h3:k<o.must.length) (h4:k<(tripO o).length):(tripO o)[k]=(o.names[k],o.fields[k],o.must[k]):=by
 have h:(o.names.zip (o.fields.zip o.must))[k]'h4=(o.names[k],o.fields[k],o.must[k]):=List.getElem_zip.trans (by rw[List.getElem_zip])
 exact h
abbrev tN (l:List (S × Ty × Bool)):List (List PV):=(l.map (·.1)).map encStr
abbrev tF (l:List (S × Ty × Bool)):List (List PV):=(l.map (·.2.1)).map encTy
abbrev tM (l:List (S × Ty × Bool)):List (List PV):=(l.map (·.2.2)).map encBool
end Go.Proofs.YtfilonnphgnplaaGreatDoor.Pv
set_option maxRecDepth 100000
namespace Go.Proofs.YtfilonnphgnplaaGreatDoor.Pv
open Go Go.Tidy
end Go.Proofs.YtfilonnphgnplaaGreatDoor.Pv
set_option maxRecDepth 100000
namespace Go.Proofs.YtfilonnphgnplaaGreatDoor.Pv
open Go Go.Tidy
end Go.Proofs.YtfilonnphgnplaaGreatDoor.Pv
set_option maxRecDepth 100000
namespace Go.Proofs.YtfilonnphgnplaaGreatDoor.Pv
open Go Go.Tidy
def NormOk (F:Nat) (h:Int) (N:Ty→Ty) (NM:List S) (B:Nat):Prop:=∀ t m,formedT t=true→bdT NM m t→m≤B→Ret prog F [.agg (cT t),.int .i64 h] (.agg (cT (N t)))
end Go.Proofs.YtfilonnphgnplaaGreatDoor.Pv
set_option maxRecDepth 100000
namespace Go.Proofs.YtfilonnphgnplaaGreatDoor.Pv
open Go Go.Tidy
end Go.Proofs.YtfilonnphgnplaaGreatDoor.Pv
set_option maxRecDepth 100000
namespace Go.Proofs.YtfilonnphgnplaaGreatDoor.Pv
open Go Go.Tidy
abbrev outC (t:Ty) (any:Bool) (texts arrs objs:PV):List PV:=[.bool false,.bool t.null,.bool t.fls,.bool t.tru,.vec 2 false (t.nums.map encSpan),.bool any,texts,arrs,objs]
end Go.Proofs.YtfilonnphgnplaaGreatDoor.Pv
set_option maxRecDepth 100000
namespace Go.Proofs.YtfilonnphgnplaaGreatDoor.Pv
open Go Go.Tidy
theorem fin_formed {t:Ty} (ht:formedT t=true) {az:List Arr} {os:List Ob} (h1:az.length≤1) (h2:∀ a∈az,formedA a=true) (h3:∀ o∈os,formedO o=true):formedT (.mk false t.null t.fls t.tru t.nums (t.any||decide (16<t.texts.length)) (if 16<t.texts.length then [] else t.texts) az os)=true:=by
 obtain⟨t1,t2,t3,t4,t5,t6,t7,t8⟩:=formedT_spec ht
 refine formedT_intro (by simp) ?_ (fun h=>?_) t4 t5 h1 h2 h3
 ·simp only[Ty.texts_mk]
  split
  ·rfl
  ·exact t2
 ·simp only[Ty.any_mk,Ty.texts_mk] at h ⊢
  split
  ·rfl
  ·rename_i hn
   exact t3 (by simpa[hn] using h)
end Go.Proofs.YtfilonnphgnplaaGreatDoor.Pv
set_option maxRecDepth 100000
namespace Go.Proofs.YtfilonnphgnplaaGreatDoor.Pv
open Go Go.Tidy
theorem partsT_def (t:Ty):partsT t=1+(partsAs t.arrays+partsOs t.objects):=by cases t; rfl
theorem formT_formed {t:Ty} (ht:formedT t=true):formedT (formT t)=true:=by
 obtain⟨k,_,e⟩:=formT_is t
 rw[e]; exact formed_normalT k t ht
end Go.Proofs.YtfilonnphgnplaaGreatDoor.Pv
set_option maxRecDepth 100000
namespace Go.Proofs.YtfilonnphgnplaaGreatDoor.Pv
open Go Go.Tidy
theorem dl_of_bnd (t:Ty):bndL (cT t)→dlT t:=by
 induction hn:SizeOf.sizeOf t using Nat.strongRecOn generalizing t with
 | _ n ih =>
   subst hn
   intro h
   simp only[bndL,bndV,List.length_map,LIM,and_true,true_and] at h
   obtain⟨⟨h1,_⟩,⟨h2,_⟩,⟨h3,h3'⟩,h4,h4'⟩:=h
   rw[dlT_def,dlAs_iff,dlOs_iff]
   refine⟨h1,h2,fun a ha=>?_,fun o ho=>?_⟩
   ·have:=bndR_map h3' a ha
    refine ih _ (sz_item ha) a.item rfl ?_
    simp only[encArr_eq,bndL,bndV,true_and,and_true] at this ⊢
    exact⟨this.1,this.2.1,this.2.2.1,this.2.2.2.1⟩
   ·have:=bndR_map h4' o ho
    simp only[encObj_eq,bndL,bndV,List.length_map,LIM,true_and,and_true] at this
    obtain⟨⟨k1,_⟩,⟨k2,k2'⟩,⟨k3,_⟩,k4⟩:=this
    refine⟨k1,k3,fun f hf=>?_,?_⟩
    ·have:=bndR_map k2' f hf
     refine ih _ (sz_field ho hf) f rfl ?_
     rw[encTy_eq] at this; exact this
    ·refine ih _ (sz_rest ho) o.rest rfl ?_
     simp only[bndL,bndV,List.length_map,LIM,true_and,and_true]
     exact k4
theorem tpB_le {m:Nat} (h:m≤20000):tpB m≤9000000000000000000:=by unfold tpB; omega
set_option maxHeartbeats 4000000 in
theorem typeParts_step (t:Ty) (m:Nat) (hm:m≤20000) (hdl:bndL (cT t)→dlT t) (hA:∀ a∈t.arrays,∀ k,k<m→Ret prog M.F_kit_typeParts [.agg (cT a.item),.int .i64 (k:Nat)] (.int .i64 (tpT a.item k:Nat)))
 (hR:∀ o∈t.objects,∀ k,k<m→Ret prog M.F_kit_typeParts [.agg (cT o.rest),.int .i64 (k:Nat)] (.int .i64 (tpT o.rest k:Nat)))
 (hF:∀ o∈t.objects,∀ f∈o.fields,∀ k,k<m→Ret prog M.F_kit_typeParts [.agg (cT f),.int .i64 (k:Nat)] (.int .i64 (tpT f k:Nat))) :
 Ret prog M.F_kit_typeParts [.agg (cT t),.int .i64 (m:Nat)] (.int .i64 (tpT t m:Nat)):=by
 refine Ret.go hmix h_kit_typeParts (by simp) fun hb w0 F0 hG=>?_
 have hdt:=hdl hb.1
 have hb1:=hb.1
 simp only[bndL,bndV,List.length_map,LIM,and_true,true_and] at hb1
 obtain⟨⟨z1,_⟩,⟨z2,_⟩,⟨z3,_⟩,z4,z4'⟩:=hb1
 clear hb
 have hB:=tpB_le hm
 have hB0:=tpB_base m
 rw[dlT_def,dlAs_iff,dlOs_iff] at hdt
 obtain⟨-,-,d3,d4⟩:=hdt
 have hd:=tpT_def t m
 have n1:1≤1+t.texts.length+t.nums.length:=by omega
 obtain⟨N0,hN0⟩ : ∃ N0,N0=1+t.texts.length+t.nums.length:=⟨_,rfl⟩
 rw[← hN0] at n1 hd
 have bA:∀ k,tpAs (t.arrays.take k) m N0≤tpB m∧N0≤tpAs (t.arrays.take k) m N0:=fun k=>⟨tp_bndAs _ m N0 (dlAs_iff.2 fun a ha=>d3 a (List.mem_of_mem_take ha)) n1 (by omega),tpAs_mono _ _ _⟩
 obtain⟨NA,hNA⟩ : ∃ NA,NA=tpAs t.arrays m N0:=⟨_,rfl⟩
 have bNA:NA≤tpB m∧N0≤NA:=by have:=bA t.arrays.length; rw[List.take_length] at this; rw[hNA]; exact this
 rw[← hNA] at hd
 have bO:∀ k,tpOs (t.objects.take k) m NA≤tpB m∧NA≤tpOs (t.objects.take k) m NA:=fun k=>⟨tp_bndOs _ m NA (dlOs_iff.2 fun o ho=>d4 o (List.mem_of_mem_take ho)) (by omega) bNA.1,tpOs_mono _ _ _⟩
 generalize tpT t m=H at *
 have w01:=wrap64 (n:=1+(t.texts.length:Int)) (by omega) (by omega)
 have w02:=wrap64 (n:=1+(t.texts.length:Int)+t.nums.length) (by omega) (by omega)
 simp[w01,w02]
 intro v
 have key:∀ (st:St),LS st ⟨[(7,.int .i64 0),(5,.int .i64 (NA:Nat)),(2,.ptr (2,v) 9 0 0),(1,.int .i64 m)],[((2,v),some ⟨9,[cT t],false,true⟩)]⟩ →
  XLoop ⟨prog,w0,F0,113,[],0,hG⟩ (.loop M.b_kit_typeParts_2) st [.bk 2,.sq M.t_kit_typeParts_0] (retIs M.rs_kit_typeParts (.int .i64 (H:Nat))):=fun st hst=>by
  obtain⟨J,hJ⟩ : ∃ J:Nat→Nat→Prop,J=fun k n=>n=tpOs (t.objects.take k) m NA:=⟨_,rfl⟩
  refine XLoop.cnt hmix t.objects.length (fun k n=>⟨[(7,.int .i64 k),(5,.int .i64 (n:Nat)),(2,.ptr (2,v) 9 0 0),(1,.int .i64 m)],[((2,v),some ⟨9,[cT t],false,true⟩)]⟩) J NA (by rw[hJ]; simp[tpOs]) (by simpa using hst) fun k n hk hj=>?_
  have hw:=wrap64 (n:=(k:Int)+1) (by omega) (by omega)
  have hj' : n=tpOs (t.objects.take k) m NA:=by rw[hJ] at hj; exact hj
  have bn:=bO k
  rw[← hj'] at bn
  by_cases h1:k<t.objects.length
  ·have hto:=tpOs_take m t.objects k NA h1
   rw[← hj'] at hto
   obtain⟨q1,q2,q3,q4⟩:=d4 _ (List.getElem_mem h1)
   have hof:t.objects[k].fields.length≤140737488355328:=by
    have:=bndR_map z4' t.objects[k] (List.getElem_mem h1)
    simp only[encObj_eq,bndL,bndV,List.length_map,LIM,and_true] at this
    omega
   by_cases h2:n≤m
   ·rw[if_pos h2] at hto
    have w1:=wrap64 (n:=(m:Int)-n) (by omega) (by omega)
    have e1:(m:Int)-n=((m-n:Nat):Int):=by omega
    rw[e1] at w1
    have ih:=hR _ (List.getElem_mem h1) (m-n) (by omega)
    have b1:=tp_bnd t.objects[k].rest (m-n) q4
    have b2:=tpB_step (m:=m) (n:=n) (by omega) h2
    generalize tpT t.objects[k].rest (m-n)=q at *
    have w2:=wrap64 (n:=(n:Int)+t.objects[k].names.length) (by omega) (by omega)
    have w3:=wrap64 (n:=(n:Int)+t.objects[k].names.length+t.objects[k].must.length) (by omega) (by omega)
    have w4:=wrap64 (n:=(n:Int)+t.objects[k].names.length+t.objects[k].must.length+q) (by omega) (by omega)
    obtain⟨n2,hn2⟩ : ∃ n2,n2=n+t.objects[k].names.length+t.objects[k].must.length+q:=⟨_,rfl⟩
    have e4:(n:Int)+t.objects[k].names.length+t.objects[k].must.length+q=(n2:Int):=by omega
    rw[e4] at w4
    rw[← hn2] at hto
    simp[h1,h2,e1,w1,w2,w3]
    intros
    refine XDCall.ret ih ?_
    simp[w2,w3,w4,e4]
    have bT:∀ i,tpTs (t.objects[k].fields.take i) m n2≤tpB m∧n2≤tpTs (t.objects[k].fields.take i) m n2:=fun i=>⟨tp_bndTs _ m n2 (dlTs_iff.2 fun o ho=>q3 o (List.mem_of_mem_take ho)) (by omega) (by omega),tpTs_mono _ _ _⟩
    obtain⟨J',hJ'⟩ : ∃ J:Nat→Nat→Prop,J=fun i n=>n=tpTs (t.objects[k].fields.take i) m n2:=⟨_,rfl⟩
    refine XLoop.cnt hmix t.objects[k].fields.length (fun i n=>⟨[(8,.int .i64 i),(7,.int .i64 k),(5,.int .i64 (n:Nat)),(2,.ptr (2,v) 9 0 0),(1,.int .i64 m)],[((2,v),some ⟨9,[cT t],false,true⟩)]⟩) J' n2 (by rw[hJ']; simp[tpTs]) (by simp) fun i n' hi hj2=>?_
    have hw2:=wrap64 (n:=(i:Int)+1) (by omega) (by omega)
    have hj3:n'=tpTs (t.objects[k].fields.take i) m n2:=by rw[hJ'] at hj2; exact hj2
    have bn':=bT i
    rw[← hj3] at bn'
    by_cases h3:i<t.objects[k].fields.length
    ·have hts:=tpTs_take m t.objects[k].fields i n2 h3
     rw[← hj3] at hts
     by_cases h4:n'≤m
     ·rw[if_pos h4] at hts
      have w1':=wrap64 (n:=(m:Int)-n') (by omega) (by omega)
      have e1' : (m:Int)-n'=((m-n' : Nat):Int):=by omega
      rw[e1'] at w1'
      have ih':=hF _ (List.getElem_mem h1) _ (List.getElem_mem h3) (m-n') (by omega)
      have b1':=tp_bnd t.objects[k].fields[i] (m-n') (q3 _ (List.getElem_mem h3))
      have b2':=tpB_step (m:=m) (n:=n') (by omega) h4
      generalize tpT t.objects[k].fields[i] (m-n')=q' at *
      have w5:=wrap64 (n:=(n' : Int)+q') (by omega) (by omega)
      simp[h1,h3,h4,e1',w1']
      refine XCall.ret ih' ?_
      simp[w5,hw2,h3]
      exact⟨n'+q',by rw[hJ']; exact hts.symm,by simp⟩
     ·have hstop:=tpTs_stop (m:=m) (l:=t.objects[k].fields) (k:=i) (n:=n2) (by omega)
      simp[h1,h3,h4,hw]
      exact⟨n',by rw[hJ]; show _=_; rw[hto,hstop,hj3],rfl⟩
    ·have e0:t.objects[k].fields.take i=t.objects[k].fields:=List.take_of_length_le (by omega)
     rw[e0] at hj3
     simp[h1,h3,hw]
     exact⟨n',by rw[hJ]; show _=_; rw[hto,hj3],rfl⟩
   ·have hstop:=tpOs_stop (m:=m) (l:=t.objects) (k:=k) (n:=NA) (by omega)
    simp[h1,h2]
    rw[hd,hstop,hj']
  ·have e0:t.objects.take k=t.objects:=List.take_of_length_le (by omega)
   rw[e0] at hj'
   simp[h1]
   rw[hd,hj']
 obtain⟨J,hJ⟩ : ∃ J:Nat→Nat→Prop,J=fun k n=>n=tpAs (t.arrays.take k) m N0:=⟨_,rfl⟩
 refine XLoop.cnt hmix t.arrays.length (fun k n=>⟨[(6,.int .i64 k),(5,.int .i64 (n:Nat)),(2,.ptr (2,v) 9 0 0),(1,.int .i64 m)],[((2,v),some ⟨9,[cT t],false,true⟩)]⟩) J N0 (by rw[hJ]; simp[tpAs]) (by simp[hN0]) fun k n hk hj=>?_
 have hw:=wrap64 (n:=(k:Int)+1) (by omega) (by omega)
 have hj' : n=tpAs (t.arrays.take k) m N0:=by rw[hJ] at hj; exact hj
 have bn:=bA k
 rw[← hj'] at bn
 by_cases h1:k<t.arrays.length
 ·have hta:=tpAs_take m t.arrays k N0 h1
  rw[← hj'] at hta
  by_cases h2:n≤m
  ·rw[if_pos h2] at hta
   have w1:=wrap64 (n:=(m:Int)-n) (by omega) (by omega)
   have e1:(m:Int)-n=((m-n:Nat):Int):=by omega
   rw[e1] at w1
   have ih:=hA _ (List.getElem_mem h1) (m-n) (by omega)
   have b1:=tp_bnd t.arrays[k].item (m-n) (d3 _ (List.getElem_mem h1))
   have b2:=tpB_step (m:=m) (n:=n) (by omega) h2
   generalize tpT t.arrays[k].item (m-n)=q at *
   have w2:=wrap64 (n:=(n:Int)+q) (by omega) (by omega)
   simp[h1,h2,e1,w1]
   refine XCall.ret ih ?_
   simp[w2,hw,h1]
   exact⟨n+q,by rw[hJ]; exact hta.symm,by simp⟩
  ·have hstop:=tpAs_stop (m:=m) (l:=t.arrays) (k:=k) (n:=N0) (by omega)
   have e2:n=NA:=by rw[hNA,hstop,hj']
   simp[h1,h2]
   exact key _ (by simp[e2])
 ·have e0:t.arrays.take k=t.arrays:=List.take_of_length_le (by omega)
  rw[e0] at hj'
  have e2:n=NA:=by rw[hNA,hj']
  simp[h1]
  exact key _ (by simp[e2])
theorem c_kit_typeParts (t:Ty):∀ m:Nat,m≤20000→Ret prog M.F_kit_typeParts [.agg (cT t),.int .i64 (m:Nat)] (.int .i64 (tpT t m:Nat)):=by
 induction hn:SizeOf.sizeOf t using Nat.strongRecOn generalizing t with
 | _ n ih =>
   subst hn
   intro m hm
   exact typeParts_step t m hm (dl_of_bnd t) (fun a ha k hk=>ih _ (sz_item ha) a.item rfl k (by omega)) (fun o ho k hk=>ih _ (sz_rest ho) o.rest rfl k (by omega)) (fun o ho f hf k hk=>ih _ (sz_field ho hf) f rfl k (by omega))
def fitB (t:Ty):Bool:=decide (tpT t 20000≤20000)
theorem c_kit_FitType (t:Ty):Ret prog M.F_kit_FitType [.agg (cT t)] (.bool (fitB t)):=by
 refine Ret.go hmix h_kit_FitType (by simp) fun hb w0 F0 hG=>?_
 simp
 intros
 refine XCall.ret (c_kit_typeParts t 20000 (by omega)) ?_
 simp[fitB]; omega
theorem fit_height {t:Ty} (h:fitB t=true):heightT t<2 ^ 62:=by
 have h1:=(fit_bdT (of_decide_eq_true h)).2.1
 have:=ht_sz t
 omega
def fitsB (a b:Ty):Bool:=fitB a&&fitB b&&decide (heightT a<64)&&decide (heightT b<64)
theorem c_law11_fits (a b:Ty):Ret prog M.F_law11_fits [.agg (cT a),.agg (cT b)] (.bool (fitsB a b)):=by
 refine Ret.go hmix h_law11_fits (by simp) fun hb w0 F0 hG=>?_
 unfold fitsB
 simp
 intros
 refine XCall.ret (c_kit_FitType a) ?_
 cases e1:fitB a
 ·simp
 ·simp
  refine XCall.ret (c_kit_FitType b) ?_
  cases e2:fitB b
  ·simp
  ·simp
   refine XCall.ret (c_ref09_Height a (fit_height e1)) ?_
   by_cases e3:heightT a<64
   ·have e3' : (heightT a:Int)<64:=by omega
    simp[e3,e3']
    refine XCall.ret (c_ref09_Height b (fit_height e2)) ?_
    simp
    omega
   ·have e3' : ¬ (heightT a:Int)<64:=by omega
    simp[e3,e3']
theorem c_law11_same (a b:Ty):Ret prog M.F_law11_same [.agg (cT a),.agg (cT b)] (.bool (eqv a b)):=by
 refine Ret.go hmix h_law11_same (by simp) fun hb w0 F0 hG=>?_
 simp
 intros
 refine XCall.ret (c_kit_SameType a b) ?_
 simp
end Go.Proofs.YtfilonnphgnplaaGreatDoor.Pv
namespace Go.Proofs.YtfilonnphgnplaaGreatDoor
open Go Go.RowKit Go.Maps Go.Sort Go.Shelf
def Tryz.keysA_ren:Go.Shelf.Ren:=⟨fun|7=>158|10=>225|n=>n,fun|23=>164|26=>9|3=>3|28=>167|0=>0|27=>166|33=>95|4=>4|n=>n,fun|n=>n⟩
theorem Tryz.keysA:Go.Proofs.SlLaysZ.n7 Tryz.prog Tryz.keysA_ren:={
 mixed:=by kernel_rfl
 f7:=⟨Tryz.f158.name,by decide,Tryz.func158.trans (congrArg some (by kernel_rfl))⟩
 f10:=⟨Tryz.f225.name,by decide,Tryz.func225.trans (congrArg some (by kernel_rfl))⟩
 t0:=Tryz.underlying0
 a0:=Tryz.isAgg0
 z0:=Tryz.sizeOf0
 v0:=Tryz.zeroValue0
 t4:=Tryz.underlying4
 a4:=Tryz.isAgg4
 z4:=Tryz.sizeOf4
 v4:=Tryz.zeroValue4
 t23:=Tryz.underlying164
 a23:=Tryz.isAgg164
 z23:=Tryz.sizeOf164
 v23:=Tryz.zeroValue164
 t26:=Tryz.underlying9
 a26:=Tryz.isAgg9
 z26:=Tryz.sizeOf9
 v26:=Tryz.zeroValue9
 t27:=Tryz.underlying166
 a27:=Tryz.isAgg166
 z27:=Tryz.sizeOf166
 v27:=Tryz.zeroValue166
 t28:=Tryz.underlying167
 a28:=Tryz.isAgg167
 z28:=Tryz.sizeOf167
 v28:=Tryz.zeroValue167
 t33:=Tryz.underlying95
 a33:=Tryz.isAgg95
 z33:=Tryz.sizeOf95
 v33:=Tryz.zeroValue95 }
def Tryz.sortedA_ren:Go.Shelf.Ren:=⟨fun|6=>157|8=>224|9=>155|11=>267|13=>223|12=>222|23=>265|24=>266|14=>256|15=>257|16=>258|17=>259|18=>260|19=>261|20=>262|21=>263|22=>264|25=>281|26=>282|27=>283|28=>284|29=>285|30=>279|31=>298|n=>n,fun|26=>9|28=>167|24=>26|0=>0|3=>3|37=>242|48=>269|50=>271|4=>4|40=>262|39=>261|45=>243|5=>5|9=>9|51=>279|55=>283|57=>296|58=>297|33=>95|n=>n,fun|n=>n⟩
theorem Tryz.sortedA:Go.Proofs.SlLaysZ.n6 Tryz.prog Tryz.sortedA_ren:={
 mixed:=by kernel_rfl
 f6:=⟨Tryz.f157.name,by decide,Tryz.func157.trans (congrArg some (by kernel_rfl))⟩
 f8:=⟨Tryz.f224.name,by decide,Tryz.func224.trans (congrArg some (by kernel_rfl))⟩
 f11:=⟨Tryz.f267.name,by decide,Tryz.func267.trans (congrArg some (by kernel_rfl))⟩
 t0:=Tryz.underlying0
 a0:=Tryz.isAgg0
 z0:=Tryz.sizeOf0
 v0:=Tryz.zeroValue0
 t24:=Tryz.underlying26
 a24:=Tryz.isAgg26
 z24:=Tryz.sizeOf26
 v24:=Tryz.zeroValue26
 t26:=Tryz.underlying9
 a26:=Tryz.isAgg9
 z26:=Tryz.sizeOf9
 v26:=Tryz.zeroValue9
 t28:=Tryz.underlying167
 a28:=Tryz.isAgg167
 z28:=Tryz.sizeOf167
 v28:=Tryz.zeroValue167
 i26:=by kernel_rfl }
def Tryz.sortA_ren:Go.Shelf.Ren:=⟨fun|6=>155|8=>223|9=>222|19=>265|20=>266|21=>256|22=>257|23=>258|24=>259|25=>260|26=>261|27=>262|28=>263|29=>264|36=>281|31=>282|32=>283|37=>284|38=>285|39=>279|41=>298|n=>n,fun|27=>26|29=>9|3=>3|32=>242|26=>26|0=>0|44=>269|46=>271|4=>4|36=>262|35=>261|41=>243|5=>5|9=>9|53=>279|57=>283|63=>296|64=>297|n=>n,fun|n=>n⟩
theorem Tryz.sortA:Go.Proofs.SlLaysM.n6 Tryz.prog Tryz.sortA_ren:={
 mixed:=by kernel_rfl
 f6:=⟨Tryz.f155.name,by decide,Tryz.func155.trans (congrArg some (by kernel_rfl))⟩
 f8:=Tryz.func223.trans (congrArg some (by kernel_rfl))
 f9:=⟨Tryz.f222.name,by decide,Tryz.func222.trans (congrArg some (by kernel_rfl))⟩
 f19:=Tryz.func265.trans (congrArg some (by kernel_rfl))
 f20:=Tryz.func266.trans (congrArg some (by kernel_rfl))
 f21:=⟨Tryz.f256.name,by decide,Tryz.func256.trans (congrArg some (by kernel_rfl))⟩
 f22:=⟨Tryz.f257.name,by decide,Tryz.func257.trans (congrArg some (by kernel_rfl))⟩
 f23:=⟨Tryz.f258.name,by decide,Tryz.func258.trans (congrArg some (by kernel_rfl))⟩
 f24:=⟨Tryz.f259.name,by decide,Tryz.func259.trans (congrArg some (by kernel_rfl))⟩
 f25:=⟨Tryz.f260.name,by decide,Tryz.func260.trans (congrArg some (by kernel_rfl))⟩
 f26:=⟨Tryz.f261.name,by decide,Tryz.func261.trans (congrArg some (by kernel_rfl))⟩
 f27:=⟨Tryz.f262.name,by decide,Tryz.func262.trans (congrArg some (by kernel_rfl))⟩
 f28:=⟨Tryz.f263.name,by decide,Tryz.func263.trans (congrArg some (by kernel_rfl))⟩
 f29:=⟨Tryz.f264.name,by decide,Tryz.func264.trans (congrArg some (by kernel_rfl))⟩
 f31:=Tryz.func282.trans (congrArg some (by kernel_rfl))
 f32:=Tryz.func283.trans (congrArg some (by kernel_rfl))
 f36:=⟨Tryz.f281.name,by decide,Tryz.func281.trans (congrArg some (by kernel_rfl))⟩
 f37:=⟨Tryz.f284.name,by decide,Tryz.func284.trans (congrArg some (by kernel_rfl))⟩
 f38:=⟨Tryz.f285.name,by decide,Tryz.func285.trans (congrArg some (by kernel_rfl))⟩
 f39:=⟨Tryz.f279.name,by decide,Tryz.func279.trans (congrArg some (by kernel_rfl))⟩
 f41:=⟨Tryz.f298.name,by decide,Tryz.func298.trans (congrArg some (by kernel_rfl))⟩
 t0:=Tryz.underlying0
 a0:=Tryz.isAgg0
 z0:=Tryz.sizeOf0
 v0:=Tryz.zeroValue0
 t3:=Tryz.underlying3
 a3:=Tryz.isAgg3
 z3:=Tryz.sizeOf3
 v3:=Tryz.zeroValue3
 t4:=Tryz.underlying4
 a4:=Tryz.isAgg4
 z4:=Tryz.sizeOf4
 v4:=Tryz.zeroValue4
 t5:=Tryz.underlying5
 a5:=Tryz.isAgg5
 z5:=Tryz.sizeOf5
 v5:=Tryz.zeroValue5
 t9:=Tryz.underlying9
 a9:=Tryz.isAgg9
 z9:=Tryz.sizeOf9
 v9:=Tryz.zeroValue9
 t26:=Tryz.underlying26
 a26:=Tryz.isAgg26
 z26:=Tryz.sizeOf26
 v26:=Tryz.zeroValue26
 t27:=Tryz.underlying26
 a27:=Tryz.isAgg26
 z27:=Tryz.sizeOf26
 v27:=Tryz.zeroValue26
 t29:=Tryz.underlying9
 a29:=Tryz.isAgg9
 z29:=Tryz.sizeOf9
 v29:=Tryz.zeroValue9
 t32:=Tryz.underlying242
 a32:=Tryz.isAgg242
 z32:=Tryz.sizeOf242
 v32:=Tryz.zeroValue242
 t35:=Tryz.underlying261
 a35:=Tryz.isAgg261
 z35:=Tryz.sizeOf261
 v35:=Tryz.zeroValue261
 t36:=Tryz.underlying262
 a36:=Tryz.isAgg262
 z36:=Tryz.sizeOf262
 v36:=Tryz.zeroValue262
 t41:=Tryz.underlying243
 a41:=Tryz.isAgg243
 z41:=Tryz.sizeOf243
 v41:=Tryz.zeroValue243
 t44:=Tryz.underlying269
 a44:=Tryz.isAgg269
 z44:=Tryz.sizeOf269
 v44:=Tryz.zeroValue269
 t46:=Tryz.underlying271
 a46:=Tryz.isAgg271
 z46:=Tryz.sizeOf271
 v46:=Tryz.zeroValue271
 t53:=Tryz.underlying279
 a53:=Tryz.isAgg279
 z53:=Tryz.sizeOf279
 v53:=Tryz.zeroValue279
 t57:=Tryz.underlying283
 a57:=Tryz.isAgg283
 z57:=Tryz.sizeOf283
 v57:=Tryz.zeroValue283
 t63:=Tryz.underlying296
 a63:=Tryz.isAgg296
 z63:=Tryz.sizeOf296
 v63:=Tryz.zeroValue296
 t64:=Tryz.underlying297
 a64:=Tryz.isAgg297
 z64:=Tryz.sizeOf297
 v64:=Tryz.zeroValue297 }
def Tryz.compactA_ren:Go.Shelf.Ren:=⟨fun|44=>156|n=>n,fun|25=>26|26=>9|3=>3|4=>4|0=>0|n=>n,fun|n=>n⟩
theorem Tryz.compactA:Go.Proofs.SlLaysN.n44 Tryz.prog Tryz.compactA_ren:={
 mixed:=by kernel_rfl
 f44:=⟨Tryz.f156.name,by decide,Tryz.func156.trans (congrArg some (by kernel_rfl))⟩
 t0:=Tryz.underlying0
 a0:=Tryz.isAgg0
 z0:=Tryz.sizeOf0
 v0:=Tryz.zeroValue0
 t3:=Tryz.underlying3
 a3:=Tryz.isAgg3
 z3:=Tryz.sizeOf3
 v3:=Tryz.zeroValue3
 t4:=Tryz.underlying4
 a4:=Tryz.isAgg4
 z4:=Tryz.sizeOf4
 v4:=Tryz.zeroValue4
 t25:=Tryz.underlying26
 a25:=Tryz.isAgg26
 z25:=Tryz.sizeOf26
 v25:=Tryz.zeroValue26
 t26:=Tryz.underlying9
 a26:=Tryz.isAgg9
 z26:=Tryz.sizeOf9
 v26:=Tryz.zeroValue9
 i26:=by kernel_rfl }
def Tryz.laysValid_ren:Go.Shelf.Ren:=⟨fun|196=>274|259=>288|n=>n,fun|9=>9|4=>4|3=>3|5=>5|12=>12|119=>286|0=>0|46=>242|139=>289|138=>288|53=>271|n=>n,fun|3=>0|4=>1|n=>n⟩
theorem Tryz.laysValid:Go.Proofs.Lays.n196 Tryz.prog Tryz.laysValid_ren:={
 mixed:=by kernel_rfl
 f196:=Tryz.func274.trans (congrArg some (by kernel_rfl))
 f259:=Tryz.func288.trans (congrArg some (by kernel_rfl))
 t0:=Tryz.underlying0
 a0:=Tryz.isAgg0
 z0:=Tryz.sizeOf0
 v0:=Tryz.zeroValue0
 t3:=Tryz.underlying3
 a3:=Tryz.isAgg3
 z3:=Tryz.sizeOf3
 v3:=Tryz.zeroValue3
 t4:=Tryz.underlying4
 a4:=Tryz.isAgg4
 z4:=Tryz.sizeOf4
 v4:=Tryz.zeroValue4
 t5:=Tryz.underlying5
 a5:=Tryz.isAgg5
 z5:=Tryz.sizeOf5
 v5:=Tryz.zeroValue5
 t9:=Tryz.underlying9
 a9:=Tryz.isAgg9
 z9:=Tryz.sizeOf9
 v9:=Tryz.zeroValue9
 t12:=Tryz.underlying12
 a12:=Tryz.isAgg12
 z12:=Tryz.sizeOf12
 v12:=Tryz.zeroValue12
 t46:=Tryz.underlying242
 a46:=Tryz.isAgg242
 z46:=Tryz.sizeOf242
 v46:=Tryz.zeroValue242
 t53:=Tryz.underlying271
 a53:=Tryz.isAgg271
 z53:=Tryz.sizeOf271
 v53:=Tryz.zeroValue271
 t119:=Tryz.underlying286
 a119:=Tryz.isAgg286
 z119:=Tryz.sizeOf286
 t138:=Tryz.underlying288
 a138:=Tryz.isAgg288
 z138:=Tryz.sizeOf288
 v138:=Tryz.zeroValue288
 t139:=Tryz.underlying289
 a139:=Tryz.isAgg289
 z139:=Tryz.sizeOf289
 v139:=Tryz.zeroValue289
 g3:=by kernel_rfl
 g4:=by kernel_rfl }
end Go.Proofs.YtfilonnphgnplaaGreatDoor
namespace Go.Proofs.YtfilonnphgnplaaGreatDoor.Pv
open Go Go.Tidy
theorem first_at:∀ c:Fin 256,utf8First[c.1]? = some (Lib.firstT c.1):=by decide +kernel
theorem accept_at:∀ i:Fin 16,utf8Accept[2*i.1]? = some (Lib.accLo i.1)∧utf8Accept[2*i.1+1]? = some (Lib.accHi i.1):=by decide +kernel
theorem tabs_ok {w:World} {F:Nat→Prop} (hG:GOk prog w F):Lib.Utf8Tabs (Tryz.laysValid_ren.g 3) (Tryz.laysValid_ren.g 4) w:=by
 have h3:gTab prog (Tryz.laysValid_ren.g 3)=some utf8First:=by kernel_rfl
 have h4:gTab prog (Tryz.laysValid_ren.g 4)=some utf8Accept:=by kernel_rfl
 exact⟨fun c hc=>((hG _ _ h3).2.2 c _ (first_at ⟨c,hc⟩)).1,fun i hi=>⟨((hG _ _ h4).2.2 _ _ (accept_at ⟨i,hi⟩).1).1,((hG _ _ h4).2.2 _ _ (accept_at ⟨i,hi⟩).2).1⟩⟩
theorem c_utf8_ValidString (s:S):Ret prog M.F_utf8_ValidString [.str s] (.bool (utfB s)):=by
 refine⟨by kernel_rfl,fun w F vs hG hF hr=>?_⟩
 obtain⟨v,us,rfl,hv,hus⟩:=hr
 obtain rfl:us=[]:=hus
 obtain⟨rfl,hs⟩:=hv
 have h:Calls prog M.F_utf8_ValidString #[.string s] w _:=Any.utf8_ValidString Tryz.laysValid s w (by unfold LIM at hs; omega) (tabs_ok hG)
 refine Calls.mono h ?_
 rintro e w' ⟨rfl,hb⟩
 exact⟨_,F,rfl,Bel.of hb,fun _ h=>h,fun b hb'=>⟨Nat.lt_of_lt_of_le (hF b hb') hb.size,.inl hb'⟩,by rw[validD_utfB]; rfl⟩
end Go.Proofs.YtfilonnphgnplaaGreatDoor.Pv
set_option maxRecDepth 100000
namespace Go.Proofs.YtfilonnphgnplaaGreatDoor.Pv
open Go Go.Tidy
theorem c_utf_Valid (s:S):Ret prog M.F_utf_Valid [.str s] (.bool (utfB s)):=by
 refine Ret.go hmix h_utf_Valid (by simp) fun hb w0 F0 hG=>?_
 simp
 refine XCall.ret (c_utf8_ValidString s) ?_
 simp
theorem c_shape_Every:Ret prog M.F_shape_Every [] (.agg (cT tEvery)):=by
 refine Ret.go hmix h_shape_Every (by simp) fun hb w0 F0 hG=>?_
 simp[tEvery]
theorem not_rise {l:List S} {k:Nat} (hk:k<l.length) (h:¬ (utfB l[k]=true∧∀ h:0<k,sLt (l[k-1]'(by omega)) l[k]=true)):riseB l=false:=by
 cases hr:riseB l
 ·rfl
 ·exact absurd (riseB_at hk hr) h
set_option maxHeartbeats 4000000 in
theorem c_shape_rise (l:List S):Ret prog M.F_shape_rise [.vec 1 false (l.map encStr)] (.bool (riseB l)):=by
 refine Ret.go hmix h_shape_rise (by simp) fun hb w0 F0 hG=>?_
 simp only[bndL,bndV,List.length_map,LIM,and_true] at hb
 generalize hB:riseB l=B
 simp
 obtain⟨J,hJ⟩ : ∃ J:Nat→Unit→Prop,J=fun k _=>RiseTo l k:=⟨_,rfl⟩
 refine XLoop.cnt hmix l.length (fun k _=>⟨[(7,.int .i64 k),(6,.int .i64 l.length),(5,.vec 1 false (l.map encStr)),(0,.vec 1 false (l.map encStr))],[]⟩) J () (by rw[hJ]; exact fun j _ h=>absurd h (by omega)) (by simp) fun k _ hk hj=>?_
 have hw:=wrap64 (n:=(k:Int)+1) (by omega) (by omega)
 have hj' : RiseTo l k:=by rw[hJ] at hj; exact hj
 by_cases g:k<l.length
 ·simp[g]
  refine XCall.ret (c_utf_Valid l[k]) ?_
  cases e1:utfB l[k]
  ·have:B=false:=by rw[← hB]; exact not_rise g (fun h=>by rw[e1] at h; cases h.1)
   simp[this]
  ·by_cases g0:0<k
   ·have g0' : (0:Int)<k:=by omega
    have wm:=wrap64 (n:=(k:Int)-1) (by omega) (by omega)
    have em:(k:Int)-1=((k-1:Nat):Int):=by omega
    have g1:k-1<l.length:=by omega
    rw[em] at wm
    cases e2:sLt l[k-1] l[k]
    ·have:B=false:=by rw[← hB]; exact not_rise g (fun h=>by have:=h.2 g0; rw[e2] at this; cases this)
     simp[g0',g0,g,g1,wm,em,e2,this]
    ·simp[g0',g0,g,g1,wm,em,e2,hw]
     exact⟨(),by rw[hJ]; exact hj'.step g e1 fun _=>e2⟩
   ·have g0' : ¬ (0:Int)<k:=by omega
    simp[g0',g0,g,hw]
    exact⟨(),by rw[hJ]; exact hj'.step g e1 fun h=>absurd h g0⟩
 ·have:B=true:=by rw[← hB]; exact riseB_of fun i hi=>hj' i hi (by omega)
  simp[g,this]
theorem dec_nil {α:Type} (l:List α) [Decidable (l=[])]:decide (l=[])=l.isEmpty:=by cases l<;>simp
theorem c_shape_piece_bare (t:Ty):Ret prog M.F_shape_piece_bare [.agg (cT t)] (.bool (bare t)):=by
 refine Ret.go hmix h_shape_piece_bare (by simp) fun hb w0 F0 hG=>?_
 unfold bare
 simp
 rw[dec_nil,dec_nil,dec_nil,dec_nil]
 cases t.null<;>cases t.fls<;>cases t.tru<;>cases t.any<;>simp
theorem c_shape_never (t:Ty):Ret prog M.F_shape_never [.agg (cT t)] (.bool (never t)):=by
 refine Ret.go hmix h_shape_never (by simp) fun hb w0 F0 hG=>?_
 unfold never
 cases h:t.all
 ·simp[h]
  intros
  refine XCall.ret (by have:=c_shape_piece_bare t; unfold cT at this; rw[h] at this; exact this) ?_
  simp
 ·simp[h]
theorem c_shape_piece_every (t:Ty):Ret prog M.F_shape_piece_every [.agg (cT t)] (.bool (!t.all||bare t)):=by
 refine Ret.go hmix h_shape_piece_every (by simp) fun hb w0 F0 hG=>?_
 cases h:t.all
 ·simp[h]
 ·simp[h]
  intros
  refine XCall.ret (by have:=c_shape_piece_bare t; unfold cT at this; rw[h] at this; exact this) ?_
  simp
theorem c_shape_piece_texts (t:Ty):Ret prog M.F_shape_piece_texts [.agg (cT t)] (.bool (riseB t.texts&&(!t.any||t.texts.isEmpty))):=by
 refine Ret.go hmix h_shape_piece_texts (by simp) fun hb w0 F0 hG=>?_
 simp
 intros
 refine XCall.ret (c_shape_rise t.texts) ?_
 cases h1:riseB t.texts
 ·simp
 ·cases h2:t.any
  ·simp[h2]
  ·simp[h2,dec_nil]
set_option maxHeartbeats 4000000 in
theorem c_shape_piece_nums (t:Ty):Ret prog M.F_shape_piece_nums [.agg (cT t)] (.bool (decide (t.nums.length≤1)&&t.nums.all spanB)):=by
 refine Ret.go hmix h_shape_piece_nums (by simp) fun hb w0 F0 hG=>?_
 simp only[bndL,bndV,List.length_map,LIM,and_true] at hb
 generalize hB:t.nums.all spanB=B
 simp
 intro v
 obtain⟨J,hJ⟩ : ∃ J:Nat→Unit→Prop,J=fun k _=>AllTo spanB t.nums k:=⟨_,rfl⟩
 refine XLoop.cnt hmix t.nums.length (fun k _=>⟨[(10,.int .i64 k),(9,.int .i64 t.nums.length),(8,.vec 2 false (t.nums.map encSpan)),(1,.ptr (1,v) 9 0 0)],[((1,v),some ⟨9,[cT t],false,true⟩)]⟩) J () (by rw[hJ]; exact .zero) (by simp) fun k _ hk hj=>?_
 have hw:=wrap64 (n:=(k:Int)+1) (by omega) (by omega)
 have hj' : AllTo spanB t.nums k:=by rw[hJ] at hj; exact hj
 by_cases h1:k<t.nums.length
 ·have no:spanB t.nums[k]=false→B=false:=fun h=>hB ▸ all_not h1 h
  have yes:spanB t.nums[k]=true→J (k+1) ():=fun h=>by rw[hJ]; exact hj'.step h1 h
  have hs:spanB t.nums[k]=(boundB t.nums[k].low&&boundB t.nums[k].high&&(sEmp t.nums[k].low||sEmp t.nums[k].high||(numCmp t.nums[k].low t.nums[k].high).isLE)):=rfl
  unfold boundB at hs
  cases e1:sEmp t.nums[k].low
  ·cases e2:sEmp t.nums[k].high
   ·simp[h1,e1,e2]
    intros
    refine XDCall.ret (c_tens_Formed t.nums[k].low) ?_
    simp[h1,e1,e2]
    refine XDCall.ret (c_tens_Formed t.nums[k].high) ?_
    cases n1:numB t.nums[k].low
    ·simp[n1,e1,e2,h1,no (by rw[hs,e1,n1]; simp)]
    ·cases n2:numB t.nums[k].high
     ·simp[n1,n2,e1,e2,h1,no (by rw[hs,e2,n2]; simp)]
     ·rw[e1,e2,n1,n2] at hs
      simp[n1,n2,e1,e2]
      refine XCall.ret (c_shape_worth t.nums[k].low t.nums[k].high) ?_
      simp[worthI,n1,n2]
      cases hc:numCmp t.nums[k].low t.nums[k].high<;>rw[hc] at hs
      ·simp[hw,h1]; exact⟨(),yes (by rw[hs]; rfl)⟩
      ·simp[hw,h1]; exact⟨(),yes (by rw[hs]; rfl)⟩
      ·simp[no (by rw[hs]; rfl)]
   ·simp[h1,e1,e2]
    intros
    refine XDCall.ret (c_tens_Formed t.nums[k].low) ?_
    cases n1:numB t.nums[k].low
    ·simp[n1,e1,e2,h1,no (by rw[hs,e1,n1]; simp)]
    ·simp[n1,e1,e2,hw,h1]
     exact⟨(),yes (by rw[hs,e1,e2,n1]; simp)⟩
  ·cases e2:sEmp t.nums[k].high
   ·simp[h1,e1,e2]
    intros
    refine XDCall.ret (c_tens_Formed t.nums[k].high) ?_
    cases n2:numB t.nums[k].high
    ·simp[n2,e1,e2,h1,no (by rw[hs,e2,n2]; simp)]
    ·simp[n2,e1,e2,hw,h1]
     exact⟨(),yes (by rw[hs,e1,e2,n2]; simp)⟩
   ·simp[e1,e2,hw,h1]
    exact⟨(),yes (by rw[hs,e1,e2]; simp)⟩
 ·have:B=true:=by rw[← hB]; exact hj'.all h1
  simp[h1,this]
  omega
end Go.Proofs.YtfilonnphgnplaaGreatDoor.Pv
set_option maxRecDepth 100000
namespace Go.Proofs.YtfilonnphgnplaaGreatDoor.Pv
open Go Go.Tidy
set_option maxHeartbeats 4000000 in
theorem piece_arrays (t:Ty) (ih:∀ a∈t.arrays,Ret prog M.F_shape_Formed [.agg (cT a.item)] (.bool (formedT a.item))):Ret prog M.F_shape_piece_arrays [.agg (cT t)] (.bool (decide (t.arrays.length≤1)&&t.arrays.all formedA)):=by
 refine Ret.go hmix h_shape_piece_arrays (by simp) fun hb w0 F0 hG=>?_
 simp only[bndL,bndV,List.length_map,LIM,and_true] at hb
 generalize hB:t.arrays.all formedA=B
 simp
 intro v
 obtain⟨J,hJ⟩ : ∃ J:Nat→Unit→Prop,J=fun k _=>AllTo formedA t.arrays k:=⟨_,rfl⟩
 refine XLoop.cnt hmix t.arrays.length (fun k _=>⟨[(8,.int .i64 k),(7,.int .i64 t.arrays.length),(6,.vec 11 false (t.arrays.map encArr)),(1,.ptr (1,v) 9 0 0)],[((1,v),some ⟨9,[cT t],false,true⟩)]⟩) J () (by rw[hJ]; exact .zero) (by simp) fun k _ hk hj=>?_
 have hw:=wrap64 (n:=(k:Int)+1) (by omega) (by omega)
 have hj' : AllTo formedA t.arrays k:=by rw[hJ] at hj; exact hj
 by_cases h1:k<t.arrays.length
 ·have no:formedA t.arrays[k]=false→B=false:=fun h=>hB ▸ all_not h1 h
  have yes:formedA t.arrays[k]=true→J (k+1) ():=fun h=>by rw[hJ]; exact hj'.step h1 h
  have hs:formedA t.arrays[k]=(decide (0≤t.arrays[k].min)&&decide (-1≤t.arrays[k].max)&&(decide (t.arrays[k].max<0)||decide (t.arrays[k].min≤t.arrays[k].max))&&formedT t.arrays[k].item&&(never t.arrays[k].item == decide (t.arrays[k].max=0))):=by
   cases t.arrays[k]; rfl
  have ih':=ih t.arrays[k] (List.getElem_mem h1)
  by_cases g1:t.arrays[k].min<0
  ·have g1' : ¬ 0≤t.arrays[k].min:=by omega
   simp[h1,g1,no (by rw[hs]; simp[g1'])]
  by_cases g2:t.arrays[k].max < -1
  ·have g2' : ¬ -1≤t.arrays[k].max:=by omega
   simp[h1,g1,g2,no (by rw[hs]; simp[g2'])]
  have g1' : 0≤t.arrays[k].min:=by omega
  have g2' : -1≤t.arrays[k].max:=by omega
  by_cases g34:0≤t.arrays[k].max∧t.arrays[k].max<t.arrays[k].min
  ·obtain⟨g3,g4⟩:=g34
   have g3' : ¬ t.arrays[k].max<0:=by omega
   have g4' : ¬ t.arrays[k].min≤t.arrays[k].max:=by omega
   simp[h1,g1,g2,g3,g4,no (by rw[hs]; simp[g3',g4'])]
  have g6:(decide (t.arrays[k].max<0)||decide (t.arrays[k].min≤t.arrays[k].max))=true:=by simp; omega
  rw[g6,decide_eq_true g1',decide_eq_true g2'] at hs
  by_cases g3:0≤t.arrays[k].max
  rotate_left
  ·have g5:¬ t.arrays[k].max=0:=by omega
   simp[h1,g1,g2,g3]
   intros
   refine XDCall.ret ih' ?_
   cases hf:formedT t.arrays[k].item
   ·simp[h1,g1,g2,g3,no (by rw[hs,hf]; simp)]
   ·simp[h1,g1,g2,g3]
    refine XDCall.ret (c_shape_never t.arrays[k].item) ?_
    rw[hf] at hs
    cases hn:never t.arrays[k].item<;>rw[hn] at hs
    ·simp[g5,h1,hw]
     exact⟨(),yes (by rw[hs]; simp[g5])⟩
    ·simp[g5,h1,no (by rw[hs]; simp[g5])]
  ·have g4:¬ t.arrays[k].max<t.arrays[k].min:=by omega
   simp[h1,g1,g2,g3,g4]
   intros
   refine XDCall.ret ih' ?_
   cases hf:formedT t.arrays[k].item
   ·simp[h1,g1,g2,g3,g4,no (by rw[hs,hf]; simp)]
   ·simp[h1,g1,g2,g3,g4]
    refine XDCall.ret (c_shape_never t.arrays[k].item) ?_
    rw[hf] at hs
    by_cases g5:t.arrays[k].max=0
    ·cases hn:never t.arrays[k].item<;>rw[hn] at hs
     ·simp[g5,h1,no (by rw[hs]; simp[g5])]
     ·simp[g5,h1,hw]
      exact⟨(),yes (by rw[hs]; simp[g5])⟩
    ·cases hn:never t.arrays[k].item<;>rw[hn] at hs
     ·simp[g5,h1,hw]
      exact⟨(),yes (by rw[hs]; simp[g5])⟩
     ·simp[g5,h1,no (by rw[hs]; simp[g5])]
 ·have:B=true:=by rw[← hB]; exact hj'.all h1
  simp[h1,this]
  omega
set_option maxHeartbeats 4000000 in
theorem piece_objects (t:Ty) (ih:∀ o∈t.objects,∀ f∈o.fields,Ret prog M.F_shape_Formed [.agg (cT f)] (.bool (formedT f))) (ihr:∀ o∈t.objects,Ret prog M.F_shape_Formed [.agg (cT o.rest)] (.bool (formedT o.rest))):Ret prog M.F_shape_piece_objects [.agg (cT t)] (.bool (t.objects.all formedO)):=by
 refine Ret.go hmix h_shape_piece_objects (by simp) fun hb w0 F0 hG=>?_
 simp only[bndL,bndV,List.length_map,LIM,and_true] at hb
 generalize hB:t.objects.all formedO=B
 simp
 intro v
 obtain⟨J,hJ⟩ : ∃ J:Nat→Unit→Prop,J=fun k _=>AllTo formedO t.objects k:=⟨_,rfl⟩
 refine XLoop.cnt hmix t.objects.length (fun k _=>⟨[(10,.int .i64 k),(9,.int .i64 t.objects.length),(8,.vec 12 false (t.objects.map encObj)),(1,.ptr (1,v) 9 0 0)],[((1,v),some ⟨9,[cT t],false,true⟩)]⟩) J () (by rw[hJ]; exact .zero) (by simp) fun k _ hk hj=>?_
 have hw:=wrap64 (n:=(k:Int)+1) (by omega) (by omega)
 have hj' : AllTo formedO t.objects k:=by rw[hJ] at hj; exact hj
 by_cases h1:k<t.objects.length
 ·have no:formedO t.objects[k]=false→B=false:=fun h=>hB ▸ all_not h1 h
  have yes:formedO t.objects[k]=true→J (k+1) ():=fun h=>by rw[hJ]; exact hj'.step h1 h
  have hO:formedO t.objects[k]=(decide (t.objects[k].names.length=t.objects[k].fields.length)&&decide (t.objects[k].names.length=t.objects[k].must.length)&&riseB t.objects[k].names&&formedT t.objects[k].rest&&formedTs t.objects[k].fields&&(t.objects[k].fields.zip t.objects[k].must).all (fun p=>!p.2||!never p.1)):=by
   cases t.objects[k]; rfl
  have ih':=ih _ (List.getElem_mem h1)
  have ihr':=ihr _ (List.getElem_mem h1)
  have hbf:t.objects[k].fields.length≤140737488355328:=by
   have:=bndR_map hb.2.2.2.2.2.2.2.2.2 t.objects[k] (List.getElem_mem h1)
   simp only[encObj_eq,bndL,bndV,List.length_map,LIM,and_true] at this
   omega
  generalize hoo:t.objects[k]=o at *
  by_cases g1:o.names.length=o.fields.length
  rotate_left
  ·have g1' : ¬ (o.names.length:Int)=o.fields.length:=by omega
   simp[h1,hoo,g1,g1',no (by rw[hO]; simp[g1])]
  have g1' : (o.names.length:Int)=o.fields.length:=by omega
  by_cases g2:o.names.length=o.must.length
  rotate_left
  ·have g2' : ¬ (o.names.length:Int)=o.must.length:=by omega
   simp[h1,hoo,← g1,g2,g2',no (by rw[hO]; simp[g2])]
  have g2' : (o.names.length:Int)=o.must.length:=by omega
  simp[h1,hoo,← g1,← g2]
  intro v4
  refine XCall.ret (c_shape_rise o.names) ?_
  cases hr:riseB o.names
  ·simp[no (by rw[hO,hr]; simp)]
  simp
  refine XCall.ret ihr' ?_
  cases hf:formedT o.rest
  ·simp[no (by rw[hO,hf]; simp)]
  simp
  rw[decide_eq_true g1,decide_eq_true g2,hr,hf,formedTs_all] at hO
  obtain⟨J',hJ'⟩ : ∃ J:Nat→Unit→Prop,J=fun i _=>AllTo formedT o.fields i∧AllTo (fun p:Ty × Bool=>!p.2||!never p.1) (o.fields.zip o.must) i:=⟨_,rfl⟩
  refine XLoop.cnt hmix o.fields.length (fun i _=>⟨[(45,.int .i64 i),(44,.int .i64 o.fields.length),(43,.vec 9 false (o.fields.map encTy)),(4,.ptr (4,v4) 12 0 0),(10,.int .i64 k),(9,.int .i64 t.objects.length),(8,.vec 12 false (t.objects.map encObj)),(1,.ptr (1,v) 9 0 0)],[((4,v4),some ⟨12,[cO o],false,true⟩),((1,v),some ⟨9,[cT t],false,true⟩)]⟩) J' () (by rw[hJ']; exact⟨.zero,.zero⟩) (by simp[g1]) fun i _ hi hji=>?_
  have hw2:=wrap64 (n:=(i:Int)+1) (by omega) (by omega)
  obtain⟨j1,j2⟩ : AllTo formedT o.fields i∧AllTo (fun p:Ty × Bool=>!p.2||!never p.1) (o.fields.zip o.must) i:=by rw[hJ'] at hji; exact hji
  by_cases h2:i<o.fields.length
  ·have h3:i<o.must.length:=by omega
   have h4:i<(o.fields.zip o.must).length:=by simp; omega
   have hz:(o.fields.zip o.must)[i]=(o.fields[i],o.must[i]):=by simp
   cases e2:o.must[i]
   ·simp[h2,h3,e2]
    intros
    refine XCall.ret (ih' o.fields[i] (List.getElem_mem h2)) ?_
    cases e1:formedT o.fields[i]
    ·simp[h2,h3,e2,no (by rw[hO,all_not h2 e1]; simp)]
    ·simp[h2,h3,e2,hw2]
     exact⟨(),by rw[hJ']; exact⟨j1.step h2 e1,j2.step h4 (by rw[hz]; simp[e2])⟩⟩
   ·simp[h2,h3,e2]
    intros
    refine XCall.ret (ih' o.fields[i] (List.getElem_mem h2)) ?_
    cases e1:formedT o.fields[i]
    ·simp[h2,h3,e2,no (by rw[hO,all_not h2 e1]; simp)]
    ·simp[h2,h3,e2]
     refine XCall.ret (c_shape_never o.fields[i]) ?_
     cases e3:never o.fields[i]
     ·simp[hw2,h2]
      exact⟨(),by rw[hJ']; exact⟨j1.step h2 e1,j2.step h4 (by rw[hz]; simp[e3])⟩⟩
     ·simp[no (by rw[hO,all_not h4 (by rw[hz]; simp[e2,e3])]; simp)]
  ·simp[h2,hw,h1]
   exact⟨(),yes (by rw[hO,j1.all h2,j2.all (by simp; omega)]; rfl)⟩
 ·have:B=true:=by rw[← hB]; exact hj'.all h1
  simp[h1,this]
set_option maxHeartbeats 4000000 in
theorem shape_formed_step (t:Ty) (hA:Ret prog M.F_shape_piece_arrays [.agg (cT t)] (.bool (decide (t.arrays.length≤1)&&t.arrays.all formedA))) (hO:Ret prog M.F_shape_piece_objects [.agg (cT t)] (.bool (t.objects.all formedO))):Ret prog M.F_shape_Formed [.agg (cT t)] (.bool (formedT t)):=by
 refine Ret.go hmix h_shape_Formed (by simp) fun hb w0 F0 hG=>?_
 have hs:formedT t=((!t.all||bare t)&&(decide (t.nums.length≤1)&&t.nums.all spanB)&&(riseB t.texts&&(!t.any||t.texts.isEmpty))&&(decide (t.arrays.length≤1)&&t.arrays.all formedA)&&t.objects.all formedO):=by
  cases t
  simp only[formedT,formedAs_all,formedOs_all,Ty.all_mk,Ty.nums_mk,Ty.texts_mk,Ty.any_mk,Ty.arrays_mk,Ty.objects_mk]
  rw[Bool.eq_iff_iff]
  simp only[Bool.and_eq_true]
  constructor
  ·rintro⟨⟨⟨⟨⟨⟨⟨h1,h2⟩,h3⟩,h4⟩,h5⟩,h6⟩,h7⟩,h8⟩; exact⟨⟨⟨⟨h1,h4,h5⟩,h2,h3⟩,h6,h7⟩,h8⟩
  ·rintro⟨⟨⟨⟨h1,h4,h5⟩,h2,h3⟩,h6,h7⟩,h8⟩; exact⟨⟨⟨⟨⟨⟨⟨h1,h2⟩,h3⟩,h4⟩,h5⟩,h6⟩,h7⟩,h8⟩
 generalize formedT t=B at *
 simp
 intro v1 v2
 refine XLoop.rnd hmix (.s (.s (.s (.s (.s (.s .z)))))) ?_
 simp only[XRnd_s]
 have w1:IntKind.i64.wrap 1=1:=wrap64 (by omega) (by omega)
 have w2:IntKind.i64.wrap 2=2:=wrap64 (by omega) (by omega)
 have w3:IntKind.i64.wrap 3=3:=wrap64 (by omega) (by omega)
 have w4:IntKind.i64.wrap 4=4:=wrap64 (by omega) (by omega)
 have w5:IntKind.i64.wrap 5=5:=wrap64 (by omega) (by omega)
 simp
 refine XCall.ret (c_shape_piece_every t) ?_
 cases e1:(!t.all||bare t)<;>rw[e1] at hs
 ·simp[hs]
 simp[w1,XRnd_s]
 refine XCall.ret (c_shape_piece_nums t) ?_
 cases e2:(decide (t.nums.length≤1)&&t.nums.all spanB)<;>rw[e2] at hs
 ·simp[hs]
 simp[w2,XRnd_s]
 refine XCall.ret (c_shape_piece_texts t) ?_
 cases e3:(riseB t.texts&&(!t.any||t.texts.isEmpty))<;>rw[e3] at hs
 ·simp[hs]
 simp[w3,XRnd_s]
 refine XCall.ret hA ?_
 cases e4:(decide (t.arrays.length≤1)&&t.arrays.all formedA)<;>rw[e4] at hs
 ·simp[hs]
 simp[w4,XRnd_s]
 refine XCall.ret hO ?_
 cases e5:t.objects.all formedO<;>rw[e5] at hs
 ·simp[hs]
 simp[w5,XRnd_s,hs]
theorem c_shape_Formed (t:Ty):Ret prog M.F_shape_Formed [.agg (cT t)] (.bool (formedT t)):=by
 induction hn:SizeOf.sizeOf t using Nat.strongRecOn generalizing t with
 | _ n ih =>
   subst hn
   exact shape_formed_step t (piece_arrays t fun a ha=>ih _ (sz_item ha) a.item rfl) (piece_objects t (fun o ho f hf=>ih _ (sz_field ho hf) f rfl) fun o ho=>ih _ (sz_rest ho) o.rest rfl)
end Go.Proofs.YtfilonnphgnplaaGreatDoor.Pv
set_option maxRecDepth 100000
namespace Go.Proofs.YtfilonnphgnplaaGreatDoor.Pv
open Go Go.Tidy
set_option maxHeartbeats 4000000 in
theorem sheight_step (t:Ty) (ht:heightT t<2 ^ 62) (ha:∀ a∈t.arrays,Ret prog M.F_shape_Height [.agg (cT a.item)] (.int .i64 (heightT a.item:Nat)))
 (hr:∀ o∈t.objects,Ret prog M.F_shape_Height [.agg (cT o.rest)] (.int .i64 (heightT o.rest:Nat)))
 (hf:∀ o∈t.objects,∀ x∈o.fields,Ret prog M.F_shape_Height [.agg (cT x)] (.int .i64 (heightT x:Nat))) :
 Ret prog M.F_shape_Height [.agg (cT t)] (.int .i64 (heightT t:Nat)):=by
 refine Ret.go hmix h_shape_Height (by simp) fun hb w0 F0 hG=>?_
 simp only[bndL,bndV,List.length_map,LIM,and_true] at hb
 have hd:=heightT_def t
 generalize heightT t=H at *
 simp
 intro v
 obtain⟨J,hJ⟩ : ∃ J:Nat→Nat→Prop,J=fun k m=>m=heightAs (t.arrays.take k):=⟨_,rfl⟩
 refine XLoop.cnt hmix t.arrays.length (fun (k m:Nat)=>⟨[(13,.int .i64 k),(12,.int .i64 t.arrays.length),(11,.vec 11 false (t.arrays.map encArr)),(3,.int .i64 ((m:Int)-1)),(1,.ptr (1,v) 9 0 0)],[((1,v),some ⟨9,[cT t],false,true⟩)]⟩) J 0 (by simp[hJ,heightAs]) (by simp) fun k m hk hj=>?_
 have hw:=wrap64 (n:=(k:Int)+1) (by omega) (by omega)
 have hj' : m=heightAs (t.arrays.take k):=by rw[hJ] at hj; exact hj
 by_cases h1:k<t.arrays.length
 ·simp[h1]
  intro v5
  refine XCall.ret (ha t.arrays[k] (List.getElem_mem h1)) ?_
  simp[hw]
  refine⟨h1,max m (heightT t.arrays[k].item+1),?_,?_⟩
  ·rw[hJ]
   show _=heightAs _
   rw[heightAs_take h1,hj']
  ·omega
 ·have hm:m=heightAs t.arrays:=by rw[hj',List.take_of_length_le (by omega)]
  simp[h1]
  clear hj hj' hJ J
  obtain⟨J,hJ⟩ : ∃ J:Nat→Nat→Prop,J=fun k n=>n=max m (heightOs (t.objects.take k)):=⟨_,rfl⟩
  refine XLoop.cnt hmix t.objects.length (fun (k n:Nat)=>⟨[(26,.int .i64 k),(25,.int .i64 t.objects.length),(24,.vec 12 false (t.objects.map encObj)),(3,.int .i64 ((n:Int)-1)),(1,.ptr (1,v) 9 0 0)],[((1,v),some ⟨9,[cT t],false,true⟩)]⟩) J m (by simp[hJ,heightOs]) (by simp) fun i n hi hj=>?_
  have hw:=wrap64 (n:=(i:Int)+1) (by omega) (by omega)
  have hj' : n=max m (heightOs (t.objects.take i)):=by rw[hJ] at hj; exact hj
  by_cases h2:i<t.objects.length
  ·simp[h2]
   intro v7
   refine XCall.ret (hr t.objects[i] (List.getElem_mem h2)) ?_
   simp
   generalize ho:t.objects[i]=o at *
   have hm2:o∈t.objects:=ho ▸ List.getElem_mem h2
   obtain⟨J',hJ'⟩ : ∃ J:Nat→Nat→Prop,J=fun j p=>p=max (max n (heightT o.rest+1)) (heightTs (o.fields.take j)):=⟨_,rfl⟩
   refine XLoop.cnt hmix o.fields.length (fun (j p:Nat)=>⟨[(38,.int .i64 j),(37,.int .i64 o.fields.length),(36,.vec 9 false (o.fields.map encTy)),(3,.int .i64 ((p:Int)-1)),(26,.int .i64 i),(25,.int .i64 t.objects.length),(24,.vec 12 false (t.objects.map encObj)),(1,.ptr (1,v) 9 0 0)],[((1,v),some ⟨9,[cT t],false,true⟩)]⟩) J' (max n (heightT o.rest+1)) (by simp[hJ',heightTs]) (by simp; omega) fun j p hj2 hjj=>?_
   have hbo:o.fields.length≤140737488355328:=by
    have:=bndR_map hb.2.2.2.2.2.2.2.2.2 o hm2
    simp only[encObj_eq,bndL,bndV,List.length_map,LIM,and_true] at this
    omega
   have hw':=wrap64 (n:=(j:Int)+1) (by omega) (by omega)
   have hjj' : p=max (max n (heightT o.rest+1)) (heightTs (o.fields.take j)):=by rw[hJ'] at hjj; exact hjj
   by_cases h3:j<o.fields.length
   ·simp[h2,h3]
    intro v9
    refine XCall.ret (hf o hm2 o.fields[j] (List.getElem_mem h3)) ?_
    simp[hw']
    refine⟨h3,max p (heightT o.fields[j]+1),?_,?_⟩
    ·rw[hJ']
     show _=max _ (heightTs _)
     rw[heightTs_take h3,hjj']
     omega
    ·omega
   ·have hp:p=max (max n (heightT o.rest+1)) (heightTs o.fields):=by rw[hjj',List.take_of_length_le (by omega)]
    simp[h2,h3,hw]
    refine⟨p,?_,rfl⟩
    rw[hJ]
    show _=max _ (heightOs _)
    rw[heightOs_take h2,hp,hj',ho]
    omega
  ·have hn:n=H:=by rw[hj',List.take_of_length_le (by omega),hd,hm]
   have w1:=wrap64 (n:=(H:Int)) (by omega) (by omega)
   simp[h2,hn,w1]
theorem c_shape_Height (t:Ty) (ht:heightT t<2 ^ 62):Ret prog M.F_shape_Height [.agg (cT t)] (.int .i64 (heightT t:Nat)):=by
 induction hn:SizeOf.sizeOf t using Nat.strongRecOn generalizing t with
 | _ n ih =>
   subst hn
   have hd:=heightT_def t
   refine sheight_step t ht (fun a ha=>?_) (fun o ho=>?_) fun o ho x hx=>?_
   ·have:=heightAs_mem ha
    have h2:heightT a.item<2 ^ 62:=by omega
    exact ih _ (sz_item ha) a.item h2 rfl
   ·have:=(heightOs_mem ho).1
    have h2:heightT o.rest<2 ^ 62:=by omega
    exact ih _ (sz_rest ho) o.rest h2 rfl
   ·have h3:=(heightOs_mem ho).2
    have h4:=heightTs_mem hx
    have h2:heightT x<2 ^ 62:=by omega
    exact ih _ (sz_field ho hx) x h2 rfl
end Go.Proofs.YtfilonnphgnplaaGreatDoor.Pv
set_option maxRecDepth 100000
namespace Go.Proofs.YtfilonnphgnplaaGreatDoor.Pv
open Go Go.Tidy
theorem c_slices_Clone_string (fl:Bool) (xs:List (List PV)) (hx:xs.length≤68719476736):RetO prog M.F_slices_Clone_string [.vec 1 fl xs] 1 xs:=by
 refine RetO.go hmix h_slices_Clone_string (by simp) fun hb w0 F0 hG=>?_
 simp
 omega
theorem c_slices_Clone_bool (fl:Bool) (xs:List (List PV)) (hx:xs.length≤68719476736):RetO prog M.F_slices_Clone_bool [.vec 1 fl xs] 1 xs:=by
 refine RetO.go hmix h_slices_Clone_bool (by simp) fun hb w0 F0 hG=>?_
 simp
 omega
theorem c_slices_Clone_Span (fl:Bool) (xs:List (List PV)) (hx:xs.length≤68719476736):RetO prog M.F_slices_Clone_Span [.vec 2 fl xs] 2 xs:=by
 refine RetO.go hmix h_slices_Clone_Span (by simp) fun hb w0 F0 hG=>?_
 simp
 omega
theorem c_slices_Clone_Arr (fl:Bool) (xs:List (List PV)) (hx:xs.length≤68719476736):RetO prog M.F_slices_Clone_Arr [.vec 11 fl xs] 11 xs:=by
 refine RetO.go hmix h_slices_Clone_Arr (by simp) fun hb w0 F0 hG=>?_
 simp
 omega
theorem c_slices_Clone_Obj (fl:Bool) (xs:List (List PV)) (hx:xs.length≤68719476736):RetO prog M.F_slices_Clone_Obj [.vec 12 fl xs] 12 xs:=by
 refine RetO.go hmix h_slices_Clone_Obj (by simp) fun hb w0 F0 hG=>?_
 simp
 omega
theorem c_slices_Clone_Type (fl:Bool) (xs:List (List PV)) (hx:xs.length≤68719476736):RetO prog M.F_slices_Clone_Type [.vec 9 fl xs] 9 xs:=by
 refine RetO.go hmix h_slices_Clone_Type (by simp) fun hb w0 F0 hG=>?_
 simp
 omega
theorem c_slices_Grow_string (n:Nat) (hn:n≤34359738368):RetO prog M.F_slices_Grow_string [.vec 1 true [],.int .i64 n] 1 []:=by
 refine RetO.go hmix h_slices_Grow_string (by simp) fun hb w0 F0 hG=>?_
 have h0:¬ (n:Int)<0:=by omega
 have w1:=wrap64 (n:=(n:Int)) (by omega) (by omega)
 have w2:=wrap64 (n:=0) (by omega) (by omega)
 by_cases h1:0<n
 ·have h1' : (0:Int)<n:=by omega
  have h2:(1:Int)≤n:=by omega
  have h3:(n:Int)≤34359738368:=by omega
  simp
  refine XCut.go hmix ?_
  simp[h0]
  refine XCut.go hmix ?_
  simp[h0,h1,h1',h2,h3,w1,w2]
 ·obtain rfl:n=0:=by omega
  simp
  refine XCut.go hmix ?_
  simp
  refine XCut.go hmix ?_
  simp[w2]
theorem c_slices_Grow_Span (n:Nat) (hn:n≤34359738368):RetO prog M.F_slices_Grow_Span [.vec 2 true [],.int .i64 n] 2 []:=by
 refine RetO.go hmix h_slices_Grow_Span (by simp) fun hb w0 F0 hG=>?_
 have h0:¬ (n:Int)<0:=by omega
 have w1:=wrap64 (n:=(n:Int)) (by omega) (by omega)
 have w2:=wrap64 (n:=0) (by omega) (by omega)
 by_cases h1:0<n
 ·have h1' : (0:Int)<n:=by omega
  have h2:(1:Int)≤n:=by omega
  have h3:(n:Int)≤34359738368:=by omega
  simp
  refine XCut.go hmix ?_
  simp[h0]
  refine XCut.go hmix ?_
  simp[h0,h1,h1',h2,h3,w1,w2]
 ·obtain rfl:n=0:=by omega
  simp
  refine XCut.go hmix ?_
  simp
  refine XCut.go hmix ?_
  simp[w2]
theorem c_slices_Grow_Arr (n:Nat) (hn:n≤34359738368):RetO prog M.F_slices_Grow_Arr [.vec 11 true [],.int .i64 n] 11 []:=by
 refine RetO.go hmix h_slices_Grow_Arr (by simp) fun hb w0 F0 hG=>?_
 have h0:¬ (n:Int)<0:=by omega
 have w1:=wrap64 (n:=(n:Int)) (by omega) (by omega)
 have w2:=wrap64 (n:=0) (by omega) (by omega)
 by_cases h1:0<n
 ·have h1' : (0:Int)<n:=by omega
  have h2:(1:Int)≤n:=by omega
  have h3:(n:Int)≤34359738368:=by omega
  simp
  refine XCut.go hmix ?_
  simp[h0]
  refine XCut.go hmix ?_
  simp[h0,h1,h1',h2,h3,w1,w2]
 ·obtain rfl:n=0:=by omega
  simp
  refine XCut.go hmix ?_
  simp
  refine XCut.go hmix ?_
  simp[w2]
theorem c_slices_Grow_Obj (n:Nat) (hn:n≤34359738368):RetO prog M.F_slices_Grow_Obj [.vec 12 true [],.int .i64 n] 12 []:=by
 refine RetO.go hmix h_slices_Grow_Obj (by simp) fun hb w0 F0 hG=>?_
 have h0:¬ (n:Int)<0:=by omega
 have w1:=wrap64 (n:=(n:Int)) (by omega) (by omega)
 have w2:=wrap64 (n:=0) (by omega) (by omega)
 by_cases h1:0<n
 ·have h1' : (0:Int)<n:=by omega
  have h2:(1:Int)≤n:=by omega
  have h3:(n:Int)≤34359738368:=by omega
  simp
  refine XCut.go hmix ?_
  simp[h0]
  refine XCut.go hmix ?_
  simp[h0,h1,h1',h2,h3,w1,w2]
 ·obtain rfl:n=0:=by omega
  simp
  refine XCut.go hmix ?_
  simp
  refine XCut.go hmix ?_
  simp[w2]
theorem c_slices_Concat_string (f1 f2:Bool) (a b:List (List PV)) (hn:a.length+b.length≤34359738368):RetO prog M.F_slices_Concat_string [.vec 1 false [[.vec 1 f1 a],[.vec 1 f2 b]]] 1 (a++b):=by
 refine RetO.go hmix h_slices_Concat_string (by simp) fun hb w0 F0 hG=>?_
 have h0:¬ (a.length:Int)<0:=by omega
 have h0' : ¬ ((a.length:Int)+b.length)<0:=by omega
 have w1:=wrap64 (n:=(a.length:Int)) (by omega) (by omega)
 have w2:=wrap64 (n:=(a.length:Int)+b.length) (by omega) (by omega)
 have k1:=wrap64 (n:=1) (by omega) (by omega)
 have k2:=wrap64 (n:=2) (by omega) (by omega)
 have hc:=c_slices_Grow_string (a.length+b.length) (by omega)
 rw[show (((a.length+b.length:Nat)):Int)=(a.length:Int)+b.length by omega] at hc
 simp
 refine XLoop.rnd hmix (.s (.s (.s .z))) ?_
 simp[XRnd_s]
 refine XCut.go hmix ?_
 simp[h0,w1,k1,k2,XRnd_s]
 refine XCut.go hmix ?_
 simp[h0',w1,w2,k1,k2,XRnd_s]
 refine XCall.retO_lite (by simp[lite,liteL]) hc fun v hv=>?_
 simp
 refine XLoop.rnd hmix (.s (.s (.s .z))) ?_
 simp[k1,k2,XRnd_s]
 have q1:a.length≤68719476736:=by omega
 have q2:a.length+b.length≤68719476736:=by omega
 simp[q1,q2]
 exact List.take_of_length_le (by simp)
theorem c_slices_Concat_Span (f1 f2:Bool) (a b:List (List PV)) (hn:a.length+b.length≤34359738368):RetO prog M.F_slices_Concat_Span [.vec 1 false [[.vec 2 f1 a],[.vec 2 f2 b]]] 2 (a++b):=by
 refine RetO.go hmix h_slices_Concat_Span (by simp) fun hb w0 F0 hG=>?_
 have h0:¬ (a.length:Int)<0:=by omega
 have h0' : ¬ ((a.length:Int)+b.length)<0:=by omega
 have w1:=wrap64 (n:=(a.length:Int)) (by omega) (by omega)
 have w2:=wrap64 (n:=(a.length:Int)+b.length) (by omega) (by omega)
 have k1:=wrap64 (n:=1) (by omega) (by omega)
 have k2:=wrap64 (n:=2) (by omega) (by omega)
 have hc:=c_slices_Grow_Span (a.length+b.length) (by omega)
 rw[show (((a.length+b.length:Nat)):Int)=(a.length:Int)+b.length by omega] at hc
 simp
 refine XLoop.rnd hmix (.s (.s (.s .z))) ?_
 simp[XRnd_s]
 refine XCut.go hmix ?_
 simp[h0,w1,k1,k2,XRnd_s]
 refine XCut.go hmix ?_
 simp[h0',w1,w2,k1,k2,XRnd_s]
 refine XCall.retO_lite (by simp[lite,liteL]) hc fun v hv=>?_
 simp
 refine XLoop.rnd hmix (.s (.s (.s .z))) ?_
 simp[k1,k2,XRnd_s]
 have q1:a.length≤68719476736:=by omega
 have q2:a.length+b.length≤68719476736:=by omega
 simp[q1,q2]
 exact List.take_of_length_le (by simp)
theorem c_slices_Concat_Arr (f1 f2:Bool) (a b:List (List PV)) (hn:a.length+b.length≤34359738368):RetO prog M.F_slices_Concat_Arr [.vec 1 false [[.vec 11 f1 a],[.vec 11 f2 b]]] 11 (a++b):=by
 refine RetO.go hmix h_slices_Concat_Arr (by simp) fun hb w0 F0 hG=>?_
 have h0:¬ (a.length:Int)<0:=by omega
 have h0' : ¬ ((a.length:Int)+b.length)<0:=by omega
 have w1:=wrap64 (n:=(a.length:Int)) (by omega) (by omega)
 have w2:=wrap64 (n:=(a.length:Int)+b.length) (by omega) (by omega)
 have k1:=wrap64 (n:=1) (by omega) (by omega)
 have k2:=wrap64 (n:=2) (by omega) (by omega)
 have hc:=c_slices_Grow_Arr (a.length+b.length) (by omega)
 rw[show (((a.length+b.length:Nat)):Int)=(a.length:Int)+b.length by omega] at hc
 simp
 refine XLoop.rnd hmix (.s (.s (.s .z))) ?_
 simp[XRnd_s]
 refine XCut.go hmix ?_
 simp[h0,w1,k1,k2,XRnd_s]
 refine XCut.go hmix ?_
 simp[h0',w1,w2,k1,k2,XRnd_s]
 refine XCall.retO_lite (by simp[lite,liteL]) hc fun v hv=>?_
 simp
 refine XLoop.rnd hmix (.s (.s (.s .z))) ?_
 simp[k1,k2,XRnd_s]
 have q1:a.length≤68719476736:=by omega
 have q2:a.length+b.length≤68719476736:=by omega
 simp[q1,q2]
 exact List.take_of_length_le (by simp)
theorem c_slices_Concat_Obj (f1 f2:Bool) (a b:List (List PV)) (hn:a.length+b.length≤34359738368):RetO prog M.F_slices_Concat_Obj [.vec 1 false [[.vec 12 f1 a],[.vec 12 f2 b]]] 12 (a++b):=by
 refine RetO.go hmix h_slices_Concat_Obj (by simp) fun hb w0 F0 hG=>?_
 have h0:¬ (a.length:Int)<0:=by omega
 have h0' : ¬ ((a.length:Int)+b.length)<0:=by omega
 have w1:=wrap64 (n:=(a.length:Int)) (by omega) (by omega)
 have w2:=wrap64 (n:=(a.length:Int)+b.length) (by omega) (by omega)
 have k1:=wrap64 (n:=1) (by omega) (by omega)
 have k2:=wrap64 (n:=2) (by omega) (by omega)
 have hc:=c_slices_Grow_Obj (a.length+b.length) (by omega)
 rw[show (((a.length+b.length:Nat)):Int)=(a.length:Int)+b.length by omega] at hc
 simp
 refine XLoop.rnd hmix (.s (.s (.s .z))) ?_
 simp[XRnd_s]
 refine XCut.go hmix ?_
 simp[h0,w1,k1,k2,XRnd_s]
 refine XCut.go hmix ?_
 simp[h0',w1,w2,k1,k2,XRnd_s]
 refine XCall.retO_lite (by simp[lite,liteL]) hc fun v hv=>?_
 simp
 refine XLoop.rnd hmix (.s (.s (.s .z))) ?_
 simp[k1,k2,XRnd_s]
 have q1:a.length≤68719476736:=by omega
 have q2:a.length+b.length≤68719476736:=by omega
 simp[q1,q2]
 exact List.take_of_length_le (by simp)
end Go.Proofs.YtfilonnphgnplaaGreatDoor.Pv
set_option maxRecDepth 100000
namespace Go.Proofs.YtfilonnphgnplaaGreatDoor.Pv
open Go Go.Tidy
theorem c_tidy_alone (o:Ob):Ret prog M.F_tidy_alone [.agg (cO o)] (.agg (cT (aloneT o))):=by
 refine Ret.go hmix h_tidy_alone (by simp) fun hb w0 F0 hG=>?_
 simp[aloneT,encObj_eq]
theorem c_tidy_lesser (a b:S) (ha:boundB a=true) (hb' : boundB b=true):Ret prog M.F_tidy_lesser [.str a,.str b] (.str (lowS a b)):=by
 refine Ret.go hmix h_tidy_lesser (by simp) fun hb w0 F0 hG=>?_
 unfold lowS
 rw[emp_eq]
 have hc:=c_tens_Cmp a b
 simp
 refine XCall.ret hc ?_
 cases e1:sEmp a
 ·cases e2:sEmp b
  ·have n1:=boundB_num ha e1
   have n2:=boundB_num hb' e2
   cases numCmp a b<;>simp[e1,e2,n1,n2,oInt]
  ·simp[e1,e2]
   exact sEmp_iff.1 e2
 ·simp[e1]
  exact sEmp_iff.1 e1
theorem c_tidy_greater (a b:S) (ha:boundB a=true) (hb' : boundB b=true):Ret prog M.F_tidy_greater [.str a,.str b] (.str (highS a b)):=by
 refine Ret.go hmix h_tidy_greater (by simp) fun hb w0 F0 hG=>?_
 unfold highS
 rw[emp_eq]
 have hc:=c_tens_Cmp a b
 simp
 refine XCall.ret hc ?_
 cases e1:sEmp a
 ·cases e2:sEmp b
  ·have n1:=boundB_num ha e1
   have n2:=boundB_num hb' e2
   cases numCmp a b<;>simp[e1,e2,n1,n2,oInt]
  ·simp[e1,e2]
   exact sEmp_iff.1 e2
 ·simp[e1]
  exact sEmp_iff.1 e1
theorem c_tidy_spans (a b:List Span) (ha:∀ s∈a,spanB s=true) (hb' : ∀ s∈b,spanB s=true) (hl:a.length+b.length≤34359738368) :
 Ret prog M.F_tidy_spans [.vec 2 false (a.map encSpan),.vec 2 false (b.map encSpan)] (.vec 2 false ((sumN a b).map encSpan)):=by
 refine Ret.go hmix h_tidy_spans (by simp) fun hb w0 F0 hG=>?_
 have hc:=c_slices_Concat_Span false false (a.map encSpan) (b.map encSpan) (by simpa using hl)
 cases a with
 | nil =>
   simp
   intros
   refine XCall.retO (by simpa using hc) ?_
   intro v hv
   simp[sumN]
 | cons x a =>
   cases b with
   | nil =>
     simp
     intros
     refine XCall.retO (by simpa using hc) ?_
     intro v hv
     simp[sumN]
   | cons y b =>
     have h1:=spanB_iff.1 (ha x (by simp))
     have h2:=spanB_iff.1 (hb' y (by simp))
     have q:¬ ((a.length:Int)+1=0):=by omega
     have q' : ¬ ((b.length:Int)+1=0):=by omega
     have q2:(0:Int)<(a.length:Int)+1:=by omega
     have q3:(0:Int)<(b.length:Int)+1:=by omega
     simp[q,q',q2,q3]
     intros
     refine XDCall.ret (c_tidy_lesser x.low y.low h1.1 h2.1) ?_
     simp[q,q',q2,q3]
     refine XDCall.ret (c_tidy_greater x.high y.high h1.2.1 h2.2.1) ?_
     simp[q,q',q2,q3,sumN]
theorem c_cmp_Less_string (a b:S):Ret prog M.F_cmp_Less_string [.str a,.str b] (.bool (sLt a b)):=by
 refine Ret.go hmix h_cmp_Less_string (by simp) fun hb w0 F0 hG=>?_
 simp
 refine XCall.ret (c_cmp_isNaN_string a) ?_
 simp
theorem c_slices_isNaN_string (a:S):Ret prog M.F_slices_isNaN_string [.str a] (.bool false):=by
 refine Ret.go hmix h_slices_isNaN_string (by simp) fun hb w0 F0 hG=>?_
 simp[sEq]
end Go.Proofs.YtfilonnphgnplaaGreatDoor.Pv
set_option maxRecDepth 100000
namespace Go.Proofs.YtfilonnphgnplaaGreatDoor.Pv
open Go Go.Tidy
theorem wrapu64 {n:Int} (h1:0≤n) (h2:n≤18446744073709551615):IntKind.u64.wrap n=n:=by
 simp[IntKind.wrap,IntKind.bits,IntKind.signed]
 omega
theorem c_slices_BinarySearch_string (l:List S) (x:S) (i:Nat) (hi:i≤l.length) (h1:∀ k,(h:k<l.length)→k<i→sLt l[k] x=true) (h2:∀ k,(h:k<l.length)→i≤k→sLt l[k] x=false) :
 Ret prog M.F_slices_BinarySearch_string [.vec 1 false (l.map encStr),.str x] (.tup [.int .i64 i,.bool (decide (l[i]? = some x))]):=by
 refine Ret.go hmix h_slices_BinarySearch_string (by simp) fun hb w0 F0 hG=>?_
 simp only[bndL,bndV,List.length_map,LIM,and_true] at hb
 simp
 obtain⟨J,hJ⟩ : ∃ J:Nat × Nat→Prop,J=fun g=>g.1≤i∧i≤g.2∧g.2≤l.length:=⟨_,rfl⟩
 refine XLoop.go hmix (fun g:Nat × Nat=>⟨[(7,.int .i64 g.1),(8,.int .i64 g.2),(6,.int .i64 l.length),(1,.str x),(0,.vec 1 false (l.map encStr))],[]⟩) J (fun g=>g.2-g.1) (0,l.length) (by simp[hJ]; exact hi) (by simp) fun g hj=>?_
 obtain⟨a,b⟩:=g
 have hj' : a≤i∧i≤b∧b≤l.length:=by rw[hJ] at hj; exact hj
 obtain⟨g1,g2,g3⟩:=hj'
 have w1:=wrap64 (n:=(a:Int)+b) (by omega) (by omega)
 have w2:=wrapu64 (n:=(a:Int)+b) (by omega) (by omega)
 by_cases hab:a<b
 ·have hd:((a:Int)+b).fdiv 2=((a+b) / 2:Nat):=by
     rw[Int.fdiv_eq_ediv_of_nonneg _ (by omega)]; omega
  have w3:=wrapu64 (n:=(((a+b) / 2:Nat):Int)) (by omega) (by omega)
  have w4:=wrap64 (n:=(((a+b) / 2:Nat):Int)) (by omega) (by omega)
  have w5:=wrap64 (n:=(((a+b) / 2:Nat):Int)+1) (by omega) (by omega)
  generalize hh:(a+b) / 2=h at *
  have hl:h<l.length:=by omega
  have e:=h1 h hl
  have e':=h2 h hl
  have p2:(2:Int) ^ min 1 IntKind.u64.bits=2:=by decide
  simp[hab,w1,w2,p2,hd,w3,w4]
  refine XCut.go hmix ?_
  simp[hl]
  refine XCall.ret (c_cmp_Less_string l[h] x) ?_
  by_cases hc:h<i
  ·simp[e hc,w5]
   refine⟨h+1,b,?_,by omega,by simp⟩
   rw[hJ]; exact⟨by show h+1≤i; omega,g2,g3⟩
  ·simp[e' (by omega)]
   refine⟨a,h,?_,by omega,by simp⟩
   rw[hJ]; exact⟨g1,by show i≤h; omega,by show h≤l.length; omega⟩
 ·obtain rfl:a=b:=by omega
  obtain rfl:a=i:=by omega
  by_cases hc:a<l.length
  ·have hq:sEq l[a] x=decide (l[a]=x):=by
      rw[Bool.eq_iff_iff,sEq_iff]; simp
   cases hd:decide (l[a]=x)
   ·simp[hc,hq,hd]
    refine XCall.ret (c_slices_isNaN_string _) ?_
    simp[hc,hq,hd]
   ·simp[hc,hq,hd]
  ·simp[hc]
theorem low_ex (l:List S) (x:S) (hs:SSs l):∃ i:Nat,i≤l.length∧(∀ k,(h:k<l.length)→k<i→sLt l[k] x=true)∧(∀ k,(h:k<l.length)→i≤k→sLt l[k] x=false):=by
 induction l with
 | nil=>exact⟨0,by simp,by simp,by simp⟩
 | cons a l ih =>
   have h':=List.pairwise_cons.1 hs
   cases ha:sLt a x
   ·refine⟨0,by simp,by simp,fun k hk _=>?_⟩
    cases k with
    | zero=>exact ha
    | succ k =>
      cases e:sLt ((a::l)[k+1]) x
      ·rfl
      ·have hk' : k<l.length:=by simpa using hk
       have h1:=sCmp_lt.1 (h'.1 l[k] (List.getElem_mem hk'))
       have:=sLt_trans h1 (by simpa using e)
       rw[ha] at this; cases this
   ·obtain⟨i,i1,i2,i3⟩:=ih h'.2
    refine⟨i+1,by simp; omega,fun k hk hlt=>?_,fun k hk hge=>?_⟩
    ·cases k with
     | zero=>exact ha
     | succ k=>exact i2 k (by simpa using hk) (by omega)
    ·cases k with
     | zero=>omega
     | succ k=>exact i3 k (by simpa using hk) (by omega)
theorem field_at {o:Ob} {n:S} {i:Nat} (h1:o.names.length=o.fields.length) (h2:o.names.length=o.must.length) (hi:i<o.names.length) (hs:SSs o.names) (e:o.names[i]=n):fieldO o n=(o.fields[i]'(by omega),o.must[i]'(by omega)):=by
 have hl:i<(o.names.zip (o.fields.zip o.must)).length:=by simp; omega
 have hz:(o.names.zip (o.fields.zip o.must))[i]=(o.names[i],o.fields[i]'(by omega),o.must[i]'(by omega)):=by simp
 unfold fieldO
 rw[find_at hl (fun j hj hlt=>?_) (by rw[hz]; exact sEq_iff.2 e),hz]
 have hjn:j<o.names.length:=by omega
 have hz' : (o.names.zip (o.fields.zip o.must))[j]=(o.names[j],o.fields[j]'(by omega),o.must[j]'(by omega)):=by simp
 rw[hz']
 have:=sCmp_lt.1 (List.pairwise_iff_getElem.1 hs j i hjn hi hlt)
 show (!sEq o.names[j] n)=true
 cases e' : sEq o.names[j] n
 ·rfl
 ·rw[sEq_iff.1 e',e,sLt_irrefl] at this; cases this
theorem field_no {o:Ob} {n:S} (hn:n ∉ o.names):fieldO o n=(o.rest,false):=by
 unfold fieldO
 have:(o.names.zip (o.fields.zip o.must)).find? (fun p=>sEq p.1 n)=none:=by
  rw[List.find?_eq_none]
  intro p hp hq
  exact hn (sEq_iff.1 hq ▸ (List.of_mem_zip hp).1)
 rw[this]
theorem low_no {l:List S} {x:S} {i:Nat} (hs:SSs l) (h1:∀ k,(h:k<l.length)→k<i→sLt l[k] x=true) (h2:∀ k,(h:k<l.length)→i≤k→sLt l[k] x=false) (hn:l[i]?≠some x):x ∉ l:=by
 intro hx
 obtain⟨k,hk,e⟩:=List.getElem_of_mem hx
 by_cases hki:k<i
 ·have:=h1 k hk hki
  rw[e,sLt_irrefl] at this; cases this
 ·by_cases hik:i=k
  ·subst hik
   exact hn (by rw[List.getElem?_eq_getElem hk,e])
  ·have a:=sCmp_lt.1 (List.pairwise_iff_getElem.1 hs i k (by omega) hk (by omega))
   have b:=h2 i (by omega) (Nat.le_refl _)
   rw[e,b] at a; cases a
set_option maxHeartbeats 4000000 in
theorem c_tidy_field (o:Ob) (n:S) (h1:o.names.length=o.fields.length) (h2:o.names.length=o.must.length) (hs:SSs o.names):Ret prog M.F_tidy_field [.agg (cO o),.str n] (.tup [.agg (cT (fieldO o n).1),.bool (fieldO o n).2]):=by
 obtain⟨i,i1,i2,i3⟩:=low_ex o.names n hs
 have hc:=c_slices_BinarySearch_string o.names n i i1 i2 i3
 have hR:fieldO o n=if h:o.names[i]? = some n then (o.fields[i]'(by have:=(List.getElem?_eq_some_iff.1 h).1; omega),o.must[i]'(by have:=(List.getElem?_eq_some_iff.1 h).1; omega)) else (o.rest,false):=by
  split
  ·rename_i h
   obtain⟨hi,e⟩:=List.getElem?_eq_some_iff.1 h
   exact field_at h1 h2 hi hs e
  ·rename_i h
   exact field_no (low_no hs i2 i3 h)
 generalize fieldO o n=R at *
 refine Ret.go hmix h_tidy_field (by simp) fun hb w0 F0 hG=>?_
 simp
 intros
 refine XCall.ret hc ?_
 by_cases h:o.names[i]? = some n
 ·have hi:i<o.names.length:=(List.getElem?_eq_some_iff.1 h).1
  have g2:i<o.fields.length:=by omega
  have g3:i<o.must.length:=by omega
  rw[dif_pos h] at hR
  simp[h,g2,g3,hR]
 ·rw[dif_neg h] at hR
  simp[h,hR]
end Go.Proofs.YtfilonnphgnplaaGreatDoor.Pv
set_option maxRecDepth 100000
namespace Go.Proofs.YtfilonnphgnplaaGreatDoor.Pv
open Go Go.Tidy
def idxI {α:Type} (p:α→Bool) (l:List α):Int:=if l.any p then (l.findIdx p:Nat) else -1
theorem idxI_at {α:Type} {p:α→Bool} {l:List α} {k:Nat} (hk:k<l.length) (ha:AllTo (fun x=>!p x) l k) (h:p l[k]=true):idxI p l=k:=by
 have h1:l.any p=true:=List.any_eq_true.2 ⟨_,List.getElem_mem hk,h⟩
 have h2:l.findIdx p=k:=(List.findIdx_eq hk).2 ⟨h,fun j hj=>by
  have:=ha j (by omega) hj
  rw[Bool.not_eq_true'] at this; exact this⟩
 simp[idxI,h1,h2]
theorem idxI_no {α:Type} {p:α→Bool} {l:List α} {k:Nat} (ha:AllTo (fun x=>!p x) l k) (hk:¬ k<l.length):idxI p l=-1:=by
 have:=ha.all hk
 have h1:l.any p=false:=by
  rw[List.any_eq_false]; simpa[List.all_eq_true] using this
 simp[idxI,h1]
theorem idxI_ge {α:Type} (p:α→Bool) (l:List α):decide (0≤idxI p l)=l.any p:=by
 unfold idxI
 cases l.any p<;>simp
theorem c_slices_Index_string (l:List S) (x:S):Ret prog M.F_slices_Index_string [.vec 1 false (l.map encStr),.str x] (.int .i64 (idxI (fun u=>sEq u x) l)):=by
 refine Ret.go hmix h_slices_Index_string (by simp) fun hb w0 F0 hG=>?_
 simp only[bndL,bndV,List.length_map,LIM,and_true] at hb
 generalize hB:idxI (fun u=>sEq u x) l=B
 obtain⟨J,hJ⟩ : ∃ J:Nat→Unit→Prop,J=fun k _=>AllTo (fun u=>!sEq u x) l k:=⟨_,rfl⟩
 simp
 refine XLoop.cnt hmix l.length (fun k _=>⟨[(8,.int .i64 k),(7,.int .i64 l.length),(1,.str x),(0,.vec 1 false (l.map encStr))],[]⟩) J () (by rw[hJ]; exact .zero) (by simp) fun k _ hk hj=>?_
 have hw:=wrap64 (n:=(k:Int)+1) (by omega) (by omega)
 have hj' : AllTo (fun u=>!sEq u x) l k:=by rw[hJ] at hj; exact hj
 by_cases g1:k<l.length
 ·have hq:sEq x l[k]=sEq l[k] x:=by rw[Bool.eq_iff_iff,sEq_iff,sEq_iff]; exact eq_comm
  cases e1:sEq l[k] x
  ·simp[g1,hq,e1,hw]
   exact⟨(),by rw[hJ]; exact hj'.step g1 (by simp[e1])⟩
  ·have:=idxI_at g1 hj' e1
   simp[g1,hq,e1]
   rw[← hB,this]
 ·have:B=-1:=by rw[← hB]; exact idxI_no hj' g1
  have w1:=wrap64 (n:=-1) (by omega) (by omega)
  simp[g1,this,w1]
theorem c_slices_Contains_string (l:List S) (x:S):Ret prog M.F_slices_Contains_string [.vec 1 false (l.map encStr),.str x] (.bool (l.any fun u=>sEq u x)):=by
 refine Ret.go hmix h_slices_Contains_string (by simp) fun hb w0 F0 hG=>?_
 rw[← idxI_ge]
 simp
 refine XCall.ret (c_slices_Index_string l x) ?_
 simp
theorem c_slices_IndexFunc_string (l:List S) (fid:Nat) (caps:List PV) (p:S→Bool) (hc:∀ hl,reifyL hl caps=caps) (hk:∀ hl,keysL hl caps=[]) (hok:∀ hl,okL hl caps) (hp:∀ s∈l,Ret prog fid (.str s::caps) (.bool (p s))):Ret prog M.F_slices_IndexFunc_string [.vec 1 false (l.map encStr),.fn fid [] caps] (.int .i64 (idxI p l)):=by
 refine Ret.go hmix h_slices_IndexFunc_string (by simp) fun hb w0 F0 hG=>?_
 simp only[bndL,bndV,List.length_map,LIM,and_true] at hb
 generalize hB:idxI p l=B
 obtain⟨J,hJ⟩ : ∃ J:Nat→Unit→Prop,J=fun k _=>AllTo (fun u=>!p u) l k:=⟨_,rfl⟩
 simp
 refine XLoop.cnt hmix l.length (fun k _=>⟨[(8,.int .i64 k),(7,.int .i64 l.length),(1,.fn fid [] caps),(0,.vec 1 false (l.map encStr))],[]⟩) J () (by rw[hJ]; exact .zero) (by simp) fun k _ hk' hj=>?_
 have hw:=wrap64 (n:=(k:Int)+1) (by omega) (by omega)
 have hj' : AllTo (fun u=>!p u) l k:=by rw[hJ] at hj; exact hj
 by_cases g1:k<l.length
 ·cases e1:p l[k]
  ·simp[g1,hw]
   refine XCall.ret (r:=.bool (p l[k])) (by simp[hc]; exact hp _ (List.getElem_mem g1)) ?_
   simp[e1,hc,hk,hok,hw]
   exact⟨g1,(),by rw[hJ]; exact hj'.step g1 (by simp[e1])⟩
  ·have:=idxI_at g1 hj' e1
   simp[g1,hw]
   refine XCall.ret (r:=.bool (p l[k])) (by simp[hc]; exact hp _ (List.getElem_mem g1)) ?_
   simp[e1,hc,hk,hok,hw]
   rw[← hB,this]
 ·have:B=-1:=by rw[← hB]; exact idxI_no hj' g1
  have w1:=wrap64 (n:=-1) (by omega) (by omega)
  simp[g1,this,w1]
theorem c_slices_ContainsFunc_string (l:List S) (fid:Nat) (caps:List PV) (p:S→Bool) (hc:∀ hl,reifyL hl caps=caps) (hk:∀ hl,keysL hl caps=[]) (hok:∀ hl,okL hl caps) (hp:∀ s∈l,Ret prog fid (.str s::caps) (.bool (p s))):Ret prog M.F_slices_ContainsFunc_string [.vec 1 false (l.map encStr),.fn fid [] caps] (.bool (l.any p)):=by
 refine Ret.go hmix h_slices_ContainsFunc_string (by simp) fun hb w0 F0 hG=>?_
 rw[← idxI_ge]
 simp
 refine XCall.ret (r:=.int .i64 (idxI p l)) (by simp[hc]; exact c_slices_IndexFunc_string l fid caps p hc hk hok hp) ?_
 simp[hc,hk,hok]
theorem c_slices_IndexFunc_Obj (l:List Ob) (fid:Nat) (caps:List PV) (p:Ob→Bool) (hc:∀ hl,reifyL hl caps=caps) (hk:∀ hl,keysL hl caps=[]) (hok:∀ hl,okL hl caps) (hp:∀ s∈l,Ret prog fid (.agg (cO s)::caps) (.bool (p s))):Ret prog M.F_slices_IndexFunc_Obj [.vec 12 false (l.map encObj),.fn fid [] caps] (.int .i64 (idxI p l)):=by
 refine Ret.go hmix h_slices_IndexFunc_Obj (by simp) fun hb w0 F0 hG=>?_
 simp only[bndL,bndV,List.length_map,LIM,and_true] at hb
 generalize hB:idxI p l=B
 obtain⟨J,hJ⟩ : ∃ J:Nat→Unit→Prop,J=fun k _=>AllTo (fun u=>!p u) l k:=⟨_,rfl⟩
 simp
 refine XLoop.cnt hmix l.length (fun k _=>⟨[(8,.int .i64 k),(7,.int .i64 l.length),(1,.fn fid [] caps),(0,.vec 12 false (l.map encObj))],[]⟩) J () (by rw[hJ]; exact .zero) (by simp) fun k _ hk' hj=>?_
 have hw:=wrap64 (n:=(k:Int)+1) (by omega) (by omega)
 have hj' : AllTo (fun u=>!p u) l k:=by rw[hJ] at hj; exact hj
 by_cases g1:k<l.length
 ·have h0:=hp l[k] (List.getElem_mem g1)
  cases e1:p l[k]
  ·simp[g1,hw]
   refine XCall.ret (r:=.bool (p l[k])) (by simp[hc]; exact h0) ?_
   simp[e1,hc,hk,hok,hw]
   exact⟨g1,(),by rw[hJ]; exact hj'.step g1 (by simp[e1])⟩
  ·have:=idxI_at g1 hj' e1
   simp[g1,hw]
   refine XCall.ret (r:=.bool (p l[k])) (by simp[hc]; exact h0) ?_
   simp[e1,hc,hk,hok,hw]
   rw[← hB,this]
 ·have:B=-1:=by rw[← hB]; exact idxI_no hj' g1
  have w1:=wrap64 (n:=-1) (by omega) (by omega)
  simp[g1,this,w1]
theorem c_slices_ContainsFunc_Obj (l:List Ob) (fid:Nat) (caps:List PV) (p:Ob→Bool) (hc:∀ hl,reifyL hl caps=caps) (hk:∀ hl,keysL hl caps=[]) (hok:∀ hl,okL hl caps) (hp:∀ s∈l,Ret prog fid (.agg (cO s)::caps) (.bool (p s))):Ret prog M.F_slices_ContainsFunc_Obj [.vec 12 false (l.map encObj),.fn fid [] caps] (.bool (l.any p)):=by
 refine Ret.go hmix h_slices_ContainsFunc_Obj (by simp) fun hb w0 F0 hG=>?_
 rw[← idxI_ge]
 simp
 refine XCall.ret (r:=.int .i64 (idxI p l)) (by simp[hc]; exact c_slices_IndexFunc_Obj l fid caps p hc hk hok hp) ?_
 simp[hc,hk,hok]
end Go.Proofs.YtfilonnphgnplaaGreatDoor.Pv
set_option maxRecDepth 100000
namespace Go.Proofs.YtfilonnphgnplaaGreatDoor.Pv
open Go Go.Tidy
def kStep (a:Int) (k:Nat) (b:Bool):Int:=if b then IntKind.u8.wrap ((BitVec.ofInt IntKind.u8.bits a ||| BitVec.ofInt IntKind.u8.bits (IntKind.u8.wrap (1*2 ^ (min (k:Int).toNat IntKind.u8.bits)))).toNat:Int) else a
theorem wrap8_bd (n:Int):0≤IntKind.u8.wrap n∧IntKind.u8.wrap n≤255:=by
 simp[IntKind.wrap,IntKind.bits,IntKind.signed]
 omega
def kFold:List Bool→Nat→Int→Int
 | [],_,a=>a
 | b::l,k,a=>kFold l (k+1) (kStep a k b)
def kindL (t:Ty):List Bool:=[t.null,t.fls,t.tru,!t.nums.isEmpty,t.any||!t.texts.isEmpty,!t.arrays.isEmpty,!t.objects.isEmpty]
def kindsT (t:Ty):Int:=if t.all then 127 else kFold (kindL t) 0 0
theorem kindsT_never (t:Ty):decide (kindsT t=0)=never t:=by
 unfold kindsT never bare kindL
 generalize t.all=a,t.null=b0,t.fls=b1,t.tru=b2,t.nums.isEmpty=b3,t.any=b4,t.texts.isEmpty=b5,t.arrays.isEmpty=b6,t.objects.isEmpty=b7
 revert a b0 b1 b2 b3 b4 b5 b6 b7
 decide
set_option maxHeartbeats 4000000 in
theorem c_shape_Kinds (t:Ty):Ret prog M.F_shape_Kinds [.agg (cT t)] (.int .u8 (kindsT t)):=by
 refine Ret.go hmix h_shape_Kinds (by simp) fun hb w0 F0 hG=>?_
 unfold kindsT kindL
 cases ha:t.all
 ·simp[ha]
  intro v
  have ne:∀ {α:Type} (l:List α),decide (0<l.length)=!l.isEmpty:=fun l=>by cases l<;>simp
  simp only[ne]
  generalize t.null=b0,t.fls=b1,t.tru=b2,(!t.nums.isEmpty)=b3,(t.any||!t.texts.isEmpty)=b4,(!t.arrays.isEmpty)=b5,(!t.objects.isEmpty)=b6
  obtain⟨J,hJ⟩ : ∃ J:Nat→Int→Prop,J=fun k a=>(0≤a∧a≤255)∧kFold [b0,b1,b2,b3,b4,b5,b6] 0 0=kFold ([b0,b1,b2,b3,b4,b5,b6].drop k) k a:=⟨_,rfl⟩
  generalize hR:kFold [b0,b1,b2,b3,b4,b5,b6] 0 0=R at *
  refine XLoop.cnt hmix 7 (fun (k:Nat) (a:Int)=>⟨[(35,.int .i64 k),(34,.agg [.bool b0,.bool b1,.bool b2,.bool b3,.bool b4,.bool b5,.bool b6]),(3,.int .u8 a)],[]⟩) J 0 (by rw[hJ]; exact⟨by omega,by rw[← hR]; rfl⟩) (by simp) fun k a hk hj=>?_
  have hj' : (0≤a∧a≤255)∧R=kFold ([b0,b1,b2,b3,b4,b5,b6].drop k) k a:=by rw[hJ] at hj; exact hj
  obtain⟨⟨a1,a2⟩,hj'⟩:=hj'
  have hw:=wrap64 (n:=(k:Int)+1) (by omega) (by omega)
  by_cases g1:k<7
  ·have nxt:∀ (b:Bool) (r:List Bool),[b0,b1,b2,b3,b4,b5,b6].drop k=b::r→J (k+1) (kStep a k b):=fun b r e=>by
      rw[hJ]
      refine⟨?_,?_⟩
      ·unfold kStep
       split
       ·exact wrap8_bd _
       ·exact⟨a1,a2⟩
      ·rw[hj',← List.drop_drop,e]; rfl
   have hd:∀ b:Bool,[b0,b1,b2,b3,b4,b5,b6][k]? = some b→J (k+1) (kStep a k b):=fun b e=>by
    obtain⟨h1,h2⟩:=List.getElem?_eq_some_iff.1 e
    exact nxt b _ (by rw[List.drop_eq_getElem_cons h1,h2])
   have c1:k=0∨k=1∨k=2∨k=3∨k=4∨k=5∨k=6:=by omega
   rcases c1 with rfl|rfl|rfl|rfl|rfl|rfl|rfl
   ·have h:=hd b0 rfl
    have k1:=wrap64 (n:=1) (by omega) (by omega)
    simp
    refine XCut.go hmix ?_
    cases b0
    ·simp[kStep] at h
     simp[k1]
     exact h
    ·simp[kStep] at h
     simp[k1]
     exact h
   ·have h:=hd b1 rfl
    have k1:=wrap64 (n:=2) (by omega) (by omega)
    simp
    refine XCut.go hmix ?_
    cases b1
    ·simp[kStep] at h
     simp[k1]
     exact h
    ·simp[kStep] at h
     simp[k1]
     exact h
   ·have h:=hd b2 rfl
    have k1:=wrap64 (n:=3) (by omega) (by omega)
    simp
    refine XCut.go hmix ?_
    cases b2
    ·simp[kStep] at h
     simp[k1]
     exact h
    ·simp[kStep] at h
     simp[k1]
     exact h
   ·have h:=hd b3 rfl
    have k1:=wrap64 (n:=4) (by omega) (by omega)
    simp
    refine XCut.go hmix ?_
    cases b3
    ·simp[kStep] at h
     simp[k1]
     exact h
    ·simp[kStep] at h
     simp[k1]
     exact h
   ·have h:=hd b4 rfl
    have k1:=wrap64 (n:=5) (by omega) (by omega)
    simp
    refine XCut.go hmix ?_
    cases b4
    ·simp[kStep] at h
     simp[k1]
     exact h
    ·simp[kStep] at h
     simp[k1]
     exact h
   ·have h:=hd b5 rfl
    have k1:=wrap64 (n:=6) (by omega) (by omega)
    simp
    refine XCut.go hmix ?_
    cases b5
    ·simp[kStep] at h
     simp[k1]
     exact h
    ·simp[kStep] at h
     simp[k1]
     exact h
   ·have h:=hd b6 rfl
    have k1:=wrap64 (n:=7) (by omega) (by omega)
    simp
    refine XCut.go hmix ?_
    cases b6
    ·simp[kStep] at h
     simp[k1]
     exact h
    ·simp[kStep] at h
     simp[k1]
     exact h
  ·obtain rfl:k=7:=by omega
   have:R=a:=hj'
   simp[this]
 ·simp[ha]
end Go.Proofs.YtfilonnphgnplaaGreatDoor.Pv
set_option maxRecDepth 100000
namespace Go.Proofs.YtfilonnphgnplaaGreatDoor.Pv
open Go Go.Tidy
theorem c_below_never (t:Ty):Ret prog M.F_below_never [.agg (cT t)] (.bool (never t)):=by
 refine Ret.go hmix h_below_never (by simp) fun hb w0 F0 hG=>?_
 rw[← kindsT_never]
 simp
 intros
 refine XCall.ret (c_shape_Kinds t) ?_
 simp
def has120 (k:Nat):Bool:=k == 3||k == 4||k == 5||k == 6
theorem c_OfKinds_1 (k:Nat) (hk:k<7):Ret prog M.F_shape_OfKinds_1 [.int .i64 k,.ref [.int .u8 120]] (.bool (has120 k)):=by
 refine Ret.go hmix h_shape_OfKinds_1 (by simp) fun hb w0 F0 hG=>?_
 have c1:k=0∨k=1∨k=2∨k=3∨k=4∨k=5∨k=6:=by omega
 rcases c1 with rfl|rfl|rfl|rfl|rfl|rfl|rfl<;>simp[has120]<;>decide
def laid120:Ty:=.mk false false false false [⟨ByteArray.empty,ByteArray.empty⟩] true [] [.mk tEvery 0 (-1)] [.mk [] [] [] tEvery]
set_option maxHeartbeats 4000000 in
theorem c_OfKinds:Ret prog M.F_shape_OfKinds [.int .u8 120] (.agg (cT laid120)):=by
 refine Ret.go hmix h_shape_OfKinds (by simp) fun hb w0 F0 hG=>?_
 have kw:IntKind.u8.wrap ((120 % 2 ^ IntKind.u8.bits &&& 127 % 2 ^ IntKind.u8.bits:Nat):Int)=120:=by decide
 have h0:=c_OfKinds_1 0 (by decide)
 have h1:=c_OfKinds_1 1 (by decide)
 have h2:=c_OfKinds_1 2 (by decide)
 have h3:=c_OfKinds_1 3 (by decide)
 have h4:=c_OfKinds_1 4 (by decide)
 have h5:=c_OfKinds_1 5 (by decide)
 have h6:=c_OfKinds_1 6 (by decide)
 simp only[show has120 0=false by decide,show has120 1=false by decide,show has120 2=false by decide,show has120 3=true by decide,show has120 4=true by decide,show has120 5=true by decide,show has120 6=true by decide] at h0 h1 h2 h3 h4 h5 h6
 simp[kw]
 intro v1 v2
 refine XCall.ret (r:=.bool false) (by simpa using h0) ?_
 simp
 refine XCall.ret (r:=.bool false) (by simpa using h1) ?_
 simp
 refine XCall.ret (r:=.bool false) (by simpa using h2) ?_
 simp
 refine XCall.ret (r:=.bool true) (by simpa using h4) ?_
 simp
 intro v4
 refine XCut.go hmix ?_
 simp
 refine XCall.ret (r:=.bool true) (by simpa using h3) ?_
 simp
 intro v5
 refine XCut.go hmix ?_
 simp
 refine XCall.ret (r:=.bool true) (by simpa using h5) ?_
 simp
 refine XCall.ret c_shape_Every ?_
 simp
 intro v6
 refine XCut.go hmix ?_
 simp
 refine XCall.ret (r:=.bool true) (by simpa using h6) ?_
 simp
 refine XCall.ret c_shape_Every ?_
 simp[laid120,tEvery,encObj_eq]
 rfl
theorem laid_T {t:Ty} (h:t.all=true):laidT t=laidAll:=by simp[laidT,h]
theorem c_below_laid (t:Ty):Ret prog M.F_below_laid [.agg (cT t)] (.agg (cT (laidT t))):=by
 refine Ret.go hmix h_below_laid (by simp) fun hb w0 F0 hG=>?_
 cases ha:t.all
 ·simp[ha,laidT]
 ·rw[laid_T ha]
  simp[ha]
  intros
  refine XCall.ret c_OfKinds ?_
  simp[laid120,laidAll]
end Go.Proofs.YtfilonnphgnplaaGreatDoor.Pv
set_option maxRecDepth 100000
namespace Go.Proofs.YtfilonnphgnplaaGreatDoor.Pv
open Go Go.Tidy
theorem worth_le {a b:S} (ha:numB a=true) (hb:numB b=true):worthI a b=oInt (numCmp a b):=by simp[worthI,ha,hb]
theorem c_below_hollow (s:Span) (h1:boundB s.low=true) (h2:boundB s.high=true):Ret prog M.F_below_hollow [.agg (encSpan s)] (.bool (hollow s)):=by
 refine Ret.go hmix h_below_hollow (by simp) fun hb w0 F0 hG=>?_
 unfold hollow
 cases e1:sEmp s.low
 ·cases e2:sEmp s.high
  ·simp[e1,e2]
   intros
   refine XCall.ret (c_below_worth s.low s.high) ?_
   rw[worth_le (boundB_num h1 e1) (boundB_num h2 e2)]
   cases numCmp s.low s.high<;>simp[oInt,e1,e2]
  ·simp[e1,e2]
 ·simp[e1]
theorem spanIn_def (a b:Span):spanIn a b=(hollow a||((sEmp b.low||(!sEmp a.low&&(numCmp b.low a.low).isLE))&&(sEmp b.high||(!sEmp a.high&&(numCmp a.high b.high).isLE)))):=by
 unfold spanIn
 rw[numCmp_swap a.low b.low]
 cases numCmp a.low b.low<;>rfl
set_option maxHeartbeats 4000000 in
theorem c_below_Span (a b:Span) (a1:boundB a.low=true) (a2:boundB a.high=true) (b1:boundB b.low=true) (b2:boundB b.high=true):Ret prog M.F_below_Span [.agg (encSpan a),.agg (encSpan b)] (.bool (spanIn a b)):=by
 refine Ret.go hmix h_below_Span (by simp) fun hb w0 F0 hG=>?_
 rw[spanIn_def]
 have c1:=c_below_worth b.low a.low
 have c2:=c_below_worth a.high b.high
 simp
 intro v1 v2
 refine XCall.ret (c_below_hollow a a1 a2) ?_
 cases e0:hollow a
 ·have fin:∀ (st:St) (ks:List KF) (Q:Ex→St→Prop) (r:PV),True:=fun _ _ _ _=>trivial
  cases e1:sEmp b.low
  ·cases e2:sEmp a.low
   ·rw[worth_le (boundB_num b1 e1) (boundB_num a1 e2)] at c1
    simp[e1,e2]
    refine XCall.ret c1 ?_
    cases numCmp b.low a.low
    all_goals
      simp[oInt,e1,e2]
    all_goals
      cases e3:sEmp b.high
      ·cases e4:sEmp a.high
       ·rw[worth_le (boundB_num a2 e4) (boundB_num b2 e3)] at c2
        simp[e3,e4]
        refine XCall.ret c2 ?_
        cases numCmp a.high b.high<;>simp[oInt,e3,e4]
       ·simp[e3,e4]
      ·simp[e3]
   ·simp[e1,e2]
  ·cases e3:sEmp b.high
   ·cases e4:sEmp a.high
    ·rw[worth_le (boundB_num a2 e4) (boundB_num b2 e3)] at c2
     simp[e1,e3,e4]
     refine XCall.ret c2 ?_
     cases numCmp a.high b.high<;>simp[oInt,e1,e3,e4]
    ·simp[e1,e3,e4]
   ·simp[e1,e3]
 ·simp
theorem c_below_side_words (a b:Ty):Ret prog M.F_below_side_words [.agg (cT a),.agg (cT b)] (.bool ((!a.null||b.null)&&(!a.fls||b.fls)&&(!a.tru||b.tru))):=by
 refine Ret.go hmix h_below_side_words (by simp) fun hb w0 F0 hG=>?_
 cases e1:a.null<;>cases e2:a.fls<;>cases e3:a.tru<;>cases e4:b.null<;>cases e5:b.fls<;>simp[e1,e2,e3,e4,e5]
theorem c_below_side_nums (a b:Ty) (ha:∀ s∈a.nums,spanB s=true) (hb' : ∀ s∈b.nums,spanB s=true):Ret prog M.F_below_side_nums [.agg (cT a),.agg (cT b)] (.bool (numsIn a.nums b.nums)):=by
 refine Ret.go hmix h_below_side_nums (by simp) fun hb w0 F0 hG=>?_
 unfold numsIn
 cases ea:a.nums with
 | nil=>simp[ea]
 | cons x l =>
   have q:¬ ((l.length:Int)+1=0):=by omega
   have q2:(0:Int)<(l.length:Int)+1:=by omega
   cases eb:b.nums with
   | nil=>simp[ea,eb,q]
   | cons y m =>
     have h1:=spanB_iff.1 (ha x (by simp[ea]))
     have h2:=spanB_iff.1 (hb' y (by simp[eb]))
     have q' : ¬ ((m.length:Int)+1=0):=by omega
     have q3:(0:Int)<(m.length:Int)+1:=by omega
     simp[ea,eb,q,q',q2,q3]
     intros
     refine XDCall.ret (c_below_Span x y h1.1 h1.2.1 h2.1 h2.2.1) ?_
     simp[ea,eb,q,q',q2,q3]
theorem c_below_side_texts_1 (s:S) (b:Ty):Ret prog M.F_below_side_texts_1 [.str s,.ref (cT b)] (.bool (!b.texts.any fun u=>sEq u s)):=by
 refine Ret.go hmix h_below_side_texts_1 (by simp) fun hb w0 F0 hG=>?_
 simp
 refine XCall.ret (c_slices_Contains_string b.texts s) ?_
 simp
theorem c_below_side_texts (a b:Ty):Ret prog M.F_below_side_texts [.agg (cT a),.agg (cT b)] (.bool (textsIn a b)):=by
 refine Ret.go hmix h_below_side_texts (by simp) fun hb w0 F0 hG=>?_
 have hc:=c_slices_ContainsFunc_string a.texts M.F_below_side_texts_1 [.ref (cT b)] (fun s=>!b.texts.any fun u=>sEq u s) (by simp) (by simp) (by simp) (fun s _=>c_below_side_texts_1 s b)
 have hR:textsIn a b=(b.any||(!a.any&&!(a.texts.any fun s=>!b.texts.any fun u=>sEq u s))):=by
  unfold textsIn
  congr 2
  rw[List.not_any_eq_all_not]
  simp
 rw[hR]
 generalize (a.texts.any fun s=>!b.texts.any fun u=>sEq u s)=R at *
 cases e1:b.any
 ·cases e2:a.any
  ·simp[e1,e2]
   intros
   refine XCall.ret (r:=.bool R) (by simpa using hc) ?_
   simp
  ·simp[e1,e2]
 ·simp[e1]
end Go.Proofs.YtfilonnphgnplaaGreatDoor.Pv
set_option maxRecDepth 100000
namespace Go.Proofs.YtfilonnphgnplaaGreatDoor.Pv
open Go Go.Tidy
set_option maxHeartbeats 4000000 in
theorem c_below_field (o:Ob) (n:S) (h1:o.names.length=o.fields.length) (h2:o.names.length=o.must.length) (hs:SSs o.names):Ret prog M.F_below_field [.agg (cO o),.str n] (.tup [.agg (cT (fieldO o n).1),.bool (fieldO o n).2]):=by
 obtain⟨i,i1,i2,i3⟩:=low_ex o.names n hs
 have hc:=c_slices_BinarySearch_string o.names n i i1 i2 i3
 have hR:fieldO o n=if h:o.names[i]? = some n then (o.fields[i]'(by have:=(List.getElem?_eq_some_iff.1 h).1; omega),o.must[i]'(by have:=(List.getElem?_eq_some_iff.1 h).1; omega)) else (o.rest,false):=by
  split
  ·rename_i h
   obtain⟨hi,e⟩:=List.getElem?_eq_some_iff.1 h
   exact field_at h1 h2 hi hs e
  ·rename_i h
   exact field_no (low_no hs i2 i3 h)
 generalize fieldO o n=R at *
 refine Ret.go hmix h_below_field (by simp) fun hb w0 F0 hG=>?_
 simp
 intros
 refine XCall.ret hc ?_
 by_cases h:o.names[i]? = some n
 ·have hi:i<o.names.length:=(List.getElem?_eq_some_iff.1 h).1
  have g2:i<o.fields.length:=by omega
  have g3:i<o.must.length:=by omega
  rw[dif_pos h] at hR
  simp[h,g2,g3,hR]
 ·rw[dif_neg h] at hR
  simp[h,hR]
theorem FitT.ss {t:Ty} (h:FitT t) {o:Ob} (ho:o∈t.objects):SSs o.names:=by
 have:=formedT_spec h.1
 exact formedO_SS (this.2.2.2.2.2.2.2 o ho)
theorem c_below_names (a b:Ob) (hl:a.names.length+b.names.length≤68719476736):RetO prog M.F_below_names [.agg (cO a),.agg (cO b)] 1 ((a.names++b.names).map encStr):=by
 refine RetO.go hmix h_below_names (by simp) fun hb w0 F0 hG=>?_
 have hc:=c_slices_Clone_string false (a.names.map encStr) (by simp; omega)
 simp
 intros
 refine XDCall.retO hc ?_
 simp[hl]
 exact List.take_of_length_le (by simp)
set_option maxHeartbeats 4000000 in
theorem below_lies' (x y:Ob) (hl:x.names.length+y.names.length≤68719476736) (x1:x.names.length=x.fields.length) (x2:x.names.length=x.must.length) (y1:y.names.length=y.fields.length) (y2:y.names.length=y.must.length) (xs:SSs x.names) (ys:SSs y.names)
 (ih:∀ n,Ret prog M.F_below_Below [.agg (cT (fieldO x n).1),.agg (cT (fieldO y n).1)] (.bool (belT (fieldO y n).1 (fieldO x n).1))) (ihr:Ret prog M.F_below_Below [.agg (cT x.rest),.agg (cT y.rest)] (.bool (belT y.rest x.rest))) :
 Ret prog M.F_below_lies [.agg (cO x),.agg (cO y)] (.bool (belO y x)):=by
 refine Ret.go hmix h_below_lies (by simp) fun hb w0 F0 hG=>?_
 simp only[bndL,bndV,List.length_map,LIM,and_true] at hb
 rw[belO_def]
 have hnm:=c_below_names x y hl
 have hlN:(x.names++y.names).length≤68719476736:=by simpa using hl
 generalize x.names++y.names=N at *
 generalize hB:N.all (fieldIn y x)=B
 simp
 intro v1 v2
 refine XCall.retO hnm ?_
 intro v3 _
 simp
 obtain⟨J,hJ⟩ : ∃ J:Nat→Unit→Prop,J=fun k _=>AllTo (fieldIn y x) N k:=⟨_,rfl⟩
 refine XLoop.cnt hmix N.length (fun k _=>⟨[(15,.int .i64 k),(14,.int .i64 N.length),(13,.own (13,v3) 1 0 N.length false),(2,.ptr (2,v1) 12 0 0),(3,.ptr (3,v2) 12 0 0)],[((13,v3),some ⟨1,N.map encStr,false,false⟩),((3,v2),some ⟨12,[cO y],false,true⟩),((2,v1),some ⟨12,[cO x],false,true⟩)]⟩) J () (by rw[hJ]; exact .zero) (by simp[leR_refl]) fun k _ hk hj=>?_
 have hw:=wrap64 (n:=(k:Int)+1) (by omega) (by omega)
 have hj' : AllTo (fieldIn y x) N k:=by rw[hJ] at hj; exact hj
 by_cases g1:k<N.length
 ·simp[g1]
  refine XCall.ret (c_below_field x N[k] x1 x2 xs) ?_
  simp[g1]
  intros
  refine XCall.ret (c_below_field y N[k] y1 y2 ys) ?_
  have hs:fieldIn y x N[k]=((!(fieldO y N[k]).2||(fieldO x N[k]).2)&&belT (fieldO y N[k]).1 (fieldO x N[k]).1):=rfl
  have ih':=ih N[k]
  generalize fieldO y N[k]=fy at *
  generalize fieldO x N[k]=fx at *
  obtain⟨ty,my⟩:=fy
  obtain⟨tx,mx⟩:=fx
  simp only at hs ih' ⊢
  have no:fieldIn y x N[k]=false→B=false:=fun h=>hB ▸ all_not g1 h
  have yes:fieldIn y x N[k]=true→J (k+1) ():=fun h=>by rw[hJ]; exact hj'.step g1 h
  cases my
  ·simp
   intros
   refine XCall.ret ih' ?_
   cases hbt:belT ty tx<;>rw[hbt] at hs
   ·simp[no (by rw[hs]; simp)]
   ·simp[hw,leR_refl,g1]
    exact⟨(),yes (by rw[hs]; simp)⟩
  ·cases mx
   ·simp[no (by rw[hs]; simp)]
   ·simp
    intros
    refine XCall.ret ih' ?_
    cases hbt:belT ty tx<;>rw[hbt] at hs
    ·simp[no (by rw[hs]; simp)]
    ·simp[hw,leR_refl,g1]
     exact⟨(),yes (by rw[hs]; simp)⟩
 ·have hB1:B=true:=by rw[← hB]; exact hj'.all g1
  simp[g1]
  refine XCall.ret ihr ?_
  simp[hB1]
set_option maxHeartbeats 4000000 in
theorem side_arrays' (a b:Ty) (ih:∀ x∈a.arrays,∀ y∈b.arrays,Ret prog M.F_below_Below [.agg (cT x.item),.agg (cT y.item)] (.bool (belT y.item x.item))):Ret prog M.F_below_side_arrays [.agg (cT a),.agg (cT b)] (.bool (arrsIn a.arrays b.arrays)):=by
 refine Ret.go hmix h_below_side_arrays (by simp) fun hb w0 F0 hG=>?_
 clear hb
 generalize hA:a.arrays=la at *
 generalize hB:b.arrays=lb at *
 cases la with
 | nil=>simp[arrsIn,hA]
 | cons x la =>
   have na:¬ ((la.length:Int)+1=0):=by omega
   have na2:(0:Int)<(la.length:Int)+1:=by omega
   cases lb with
   | nil=>simp[arrsIn,hA,hB,na]
   | cons y lb =>
     have nb:¬ ((lb.length:Int)+1=0):=by omega
     have nb2:(0:Int)<(lb.length:Int)+1:=by omega
     have ih':=ih x (by simp) y (by simp)
     simp only[arrsIn,List.isEmpty_cons,Bool.false_or,arrIn]
     by_cases g1:x.min<y.min
     ·simp[hA,hB,na,nb,na2,nb2,g1]
     by_cases g2:0≤y.max
     ·by_cases g3:x.max<0
      ·simp[hA,hB,na,nb,na2,nb2,g1,g2,g3]
      by_cases g4:y.max<x.max
      ·simp[hA,hB,na,nb,na2,nb2,g1,g2,g3,g4]
      by_cases g5:x.max=0
      ·simp[hA,hB,na,nb,na2,nb2,g1,g2,g3,g4,g5]
      ·simp[hA,hB,na,nb,na2,nb2,g1,g2,g3,g4,g5]
       intros
       refine XCall.ret ih' ?_
       simp[g5]
     ·by_cases g5:x.max=0
      ·simp[hA,hB,na,nb,na2,nb2,g1,g2,g5]
      ·simp[hA,hB,na,nb,na2,nb2,g1,g2,g5]
       intros
       refine XCall.ret ih' ?_
       simp[g5]
theorem side_objects_1' (x y:Ob) (ih:Ret prog M.F_below_lies [.agg (cO x),.agg (cO y)] (.bool (belO y x))):Ret prog M.F_below_side_objects_1 [.agg (cO y),.ref (cO x)] (.bool (belO y x)):=by
 refine Ret.go hmix h_below_side_objects_1 (by simp) fun hb w0 F0 hG=>?_
 simp
 intros
 refine XCall.ret ih ?_
 simp
set_option maxHeartbeats 4000000 in
theorem side_objects' (a b:Ty) (ih:∀ x∈a.objects,∀ y∈b.objects,Ret prog M.F_below_lies [.agg (cO x),.agg (cO y)] (.bool (belO y x))):Ret prog M.F_below_side_objects [.agg (cT a),.agg (cT b)] (.bool (a.objects.all fun x=>b.objects.any fun y=>belO y x)):=by
 refine Ret.go hmix h_below_side_objects (by simp) fun hb w0 F0 hG=>?_
 simp only[bndL,bndV,List.length_map,LIM,and_true] at hb
 generalize hB:(a.objects.all fun x=>b.objects.any fun y=>belO y x)=B
 simp
 intro v1 v2
 obtain⟨J,hJ⟩ : ∃ J:Nat→Unit→Prop,J=fun k _=>AllTo (fun x=>b.objects.any fun y=>belO y x) a.objects k:=⟨_,rfl⟩
 refine XLoop.cnt hmix a.objects.length (fun k _=>⟨[(10,.int .i64 k),(9,.int .i64 a.objects.length),(8,.vec 12 false (a.objects.map encObj)),(2,.ptr (2,v1) 9 0 0),(3,.ptr (3,v2) 9 0 0)],[((3,v2),some ⟨9,[cT b],false,true⟩),((2,v1),some ⟨9,[cT a],false,true⟩)]⟩) J () (by rw[hJ]; exact .zero) (by simp) fun k _ hk hj=>?_
 have hw:=wrap64 (n:=(k:Int)+1) (by omega) (by omega)
 have hj' : AllTo (fun x=>b.objects.any fun y=>belO y x) a.objects k:=by rw[hJ] at hj; exact hj
 by_cases g1:k<a.objects.length
 ·have hm:a.objects[k]∈a.objects:=List.getElem_mem g1
  generalize ho:a.objects[k]=o at *
  have hc:=c_slices_ContainsFunc_Obj b.objects M.F_below_side_objects_1 [.ref (cO o)] (fun y=>belO y o) (by simp) (by simp) (by simp) (fun y hy=>side_objects_1' o y (ih o hm y hy))
  simp[g1,ho]
  intros
  cases e:b.objects.any fun y=>belO y o
  ·rw[e] at hc
   refine XCall.ret (r:=.bool false) (by simpa using hc) ?_
   have:B=false:=by rw[← hB]; exact all_not g1 (by rw[ho]; exact e)
   simp[this]
  ·rw[e] at hc
   refine XCall.ret (r:=.bool true) (by simpa using hc) ?_
   simp[hw,g1]
   exact⟨(),by rw[hJ]; exact hj'.step g1 (by rw[ho]; exact e)⟩
 ·have:B=true:=by rw[← hB]; exact hj'.all g1
  simp[g1,this]
set_option maxHeartbeats 4000000 in
theorem below_step' (x y:Ty) (fx:FitT x) (fy:FitT y) (ih:∀ y' : Ty,SizeOf.sizeOf y' < SizeOf.sizeOf y→FitT y'→∀ x',FitT x'→Ret prog M.F_below_Below [.agg (cT x'),.agg (cT y')] (.bool (belT y' x'))):Ret prog M.F_below_Below [.agg (cT x),.agg (cT y)] (.bool (belT y x)):=by
 have hB:=belT_def y x
 generalize belT y x=B at *
 have r0:=c_below_laid x
 have fz:=fx.laid
 generalize laidT x=z at *
 have s1:=(formedT_spec fz.1).2.2.2.2.1
 have s2:=(formedT_spec fy.1).2.2.2.2.1
 have q1:=c_below_side_words z y
 have q2:=c_below_side_nums z y s1 s2
 have q3:=c_below_side_texts z y
 have q4:=side_arrays' z y fun a ha b hb'=>ih b.item (sz_item hb') (fy.item hb') a.item (fz.item ha)
 have q5:=side_objects' z y fun a ha b hb'=>by
  obtain⟨a1,a2,a3⟩:=fz.names ha
  obtain⟨b1,b2,b3⟩:=fy.names hb'
  refine below_lies' a b (by omega) a2 a3 b2 b3 ((fz.ss ha)) (fy.ss hb') (fun n=>?_) (ih b.rest (sz_rest hb') (fy.rest hb') a.rest (fz.rest ha))
  have fa:FitT (fieldO a n).1:=by
   rcases fieldO_mem a n with h|h
   ·exact fz.field ha h
   ·rw[h]; exact fz.rest ha
  rcases fieldO_mem b n with h|h
  ·exact ih _ (sz_field hb' h) (fy.field hb' h) _ fa
  ·rw[h]; exact ih _ (sz_rest hb') (fy.rest hb') _ fa
 refine Ret.go hmix h_below_Below (by simp) fun hb w0 F0 hG=>?_
 simp
 intro v1 v2
 refine XCall.ret (c_below_never x) ?_
 cases e1:never x
 ·cases e2:y.all
  ·rw[e1,e2,Bool.false_or,Bool.false_or] at hB
   have w1:IntKind.i64.wrap 1=1:=wrap64 (by omega) (by omega)
   have w2:IntKind.i64.wrap 2=2:=wrap64 (by omega) (by omega)
   have w3:IntKind.i64.wrap 3=3:=wrap64 (by omega) (by omega)
   have w4:IntKind.i64.wrap 4=4:=wrap64 (by omega) (by omega)
   have w5:IntKind.i64.wrap 5=5:=wrap64 (by omega) (by omega)
   simp[e2]
   refine XLoop.rnd hmix (.s (.s (.s (.s (.s (.s .z)))))) ?_
   simp only[XRnd_s]
   simp
   intros
   refine XDCall.ret r0 ?_
   simp
   refine XDCall.ret q1 ?_
   cases c1:((!z.null||y.null)&&(!z.fls||y.fls)&&(!z.tru||y.tru))<;>rw[c1] at hB
   ·simp[hB]
   simp[w1,XRnd_s]
   intros
   refine XDCall.ret r0 ?_
   simp
   refine XDCall.ret q2 ?_
   cases c2:numsIn z.nums y.nums<;>rw[c2] at hB
   ·simp[hB]
   simp[w2,XRnd_s]
   intros
   refine XDCall.ret r0 ?_
   simp
   refine XDCall.ret q3 ?_
   cases c3:textsIn z y<;>rw[c3] at hB
   ·simp[hB]
   simp[w3,XRnd_s]
   intros
   refine XDCall.ret r0 ?_
   simp
   refine XDCall.ret q4 ?_
   cases c4:arrsIn z.arrays y.arrays<;>rw[c4] at hB
   ·simp[hB]
   simp[w4,XRnd_s]
   intros
   refine XDCall.ret r0 ?_
   simp
   refine XDCall.ret q5 ?_
   cases c5:(z.objects.all fun x=>y.objects.any fun p=>belO p x)<;>rw[c5] at hB
   ·simp[hB]
   simp[w5,XRnd_s,hB]
  ·simp[e2,hB,e1]
 ·simp[hB,e1]
theorem c_below_Below (x y:Ty) (fx:FitT x) (fy:FitT y):Ret prog M.F_below_Below [.agg (cT x),.agg (cT y)] (.bool (belT y x)):=by
 induction hn:SizeOf.sizeOf y using Nat.strongRecOn generalizing x y with
 | _ n ih =>
   subst hn
   exact below_step' x y fx fy fun y' h fy' x' fx'=>ih _ h x' y' fx' fy' rfl
end Go.Proofs.YtfilonnphgnplaaGreatDoor.Pv

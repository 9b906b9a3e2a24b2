/- Part 9. -/
import Derived.Test.YtbdogkmdanmojaaGreatDoorV8
import Derived.Lib.ValidU
import Derived.Test.YtbdogkmdanmojaaGreatDoorProg
import Derived.WalkKit
import Derived.WalkMore
import Derived.Below
import Derived.Shelf.Unicode.ValidAny
import Derived.Shelf.Strconv.Itoa3
import Derived.Shelf.Strconv.Clone
import Derived.Maps.Own
import Derived.Maps.OwnSet
import Derived.Maps.AppendAt
import Derived.Lib.ItoaLen
import Derived.Lib.AppendIntMem
set_option linter.unusedSimpArgs false
set_option linter.unusedVariables false
set_option maxRecDepth 100000
namespace Go.Proofs.YtbdogkmdanmojaaGreatDoor.Pv
open Go Go.Tidy
theorem dl_of_bnd (t:Ty):bndL (cT t)→dlT t:=by
 induction hn:SizeOf.sizeOf t using Nat.strongRecOn generalizing t with
 | _ n ih =>
   subst hn
   intro h
   simp only[bndL,bndV,List.length_map,LIM,and_true,true_and] at h
   obtain⟨⟨h1,_⟩,⟨h2,_⟩,⟨h3,h3'⟩,h4,h4'⟩:=h
   rw[dlT_def,dlAs_iff,dlOs_iff]
   refine⟨h1,h2,fun a ha=>?_,fun o ho=>?_⟩
   ·have:=bndR_map h3' a ha
    refine ih _ (sz_item ha) a.item rfl ?_
    simp only[encArr_eq,bndL,bndV,true_and,and_true] at this ⊢
    exact⟨this.1,this.2.1,this.2.2.1,this.2.2.2.1⟩
   ·have:=bndR_map h4' o ho
    simp only[encObj_eq,bndL,bndV,List.length_map,LIM,true_and,and_true] at this
    obtain⟨⟨k1,_⟩,⟨k2,k2'⟩,⟨k3,_⟩,k4⟩:=this
    refine⟨k1,k3,fun f hf=>?_,?_⟩
    ·have:=bndR_map k2' f hf
     refine ih _ (sz_field ho hf) f rfl ?_
     rw[encTy_eq] at this; exact this
    ·refine ih _ (sz_rest ho) o.rest rfl ?_
     simp only[bndL,bndV,List.length_map,LIM,true_and,and_true]
     exact k4
theorem tpB_le {m:Nat} (h:m≤20000):tpB m≤9000000000000000000:=by unfold tpB; omega
set_option maxHeartbeats 4000000 in
theorem typeParts_step (t:Ty) (m:Nat) (hm:m≤20000) (hdl:bndL (cT t)→dlT t) (hA:∀ a∈t.arrays,∀ k,k<m→Ret prog M.F_kit_typeParts [.agg (cT a.item),.int .i64 (k:Nat)] (.int .i64 (tpT a.item k:Nat)))
 (hR:∀ o∈t.objects,∀ k,k<m→Ret prog M.F_kit_typeParts [.agg (cT o.rest),.int .i64 (k:Nat)] (.int .i64 (tpT o.rest k:Nat)))
 (hF:∀ o∈t.objects,∀ f∈o.fields,∀ k,k<m→Ret prog M.F_kit_typeParts [.agg (cT f),.int .i64 (k:Nat)] (.int .i64 (tpT f k:Nat))) :
 Ret prog M.F_kit_typeParts [.agg (cT t),.int .i64 (m:Nat)] (.int .i64 (tpT t m:Nat)):=by
 refine Ret.go hmix h_kit_typeParts (by simp) fun hb w0 F0 hG=>?_
 have hdt:=hdl hb.1
 have hb1:=hb.1
 simp only[bndL,bndV,List.length_map,LIM,and_true,true_and] at hb1
 obtain⟨⟨z1,_⟩,⟨z2,_⟩,⟨z3,_⟩,z4,z4'⟩:=hb1
 clear hb
 have hB:=tpB_le hm
 have hB0:=tpB_base m
 rw[dlT_def,dlAs_iff,dlOs_iff] at hdt
 obtain⟨-,-,d3,d4⟩:=hdt
 have hd:=tpT_def t m
 have n1:1≤1+t.texts.length+t.nums.length:=by omega
 obtain⟨N0,hN0⟩ : ∃ N0,N0=1+t.texts.length+t.nums.length:=⟨_,rfl⟩
 rw[← hN0] at n1 hd
 have bA:∀ k,tpAs (t.arrays.take k) m N0≤tpB m∧N0≤tpAs (t.arrays.take k) m N0:=fun k=>⟨tp_bndAs _ m N0 (dlAs_iff.2 fun a ha=>d3 a (List.mem_of_mem_take ha)) n1 (by omega),tpAs_mono _ _ _⟩
 obtain⟨NA,hNA⟩ : ∃ NA,NA=tpAs t.arrays m N0:=⟨_,rfl⟩
 have bNA:NA≤tpB m∧N0≤NA:=by have:=bA t.arrays.length; rw[List.take_length] at this; rw[hNA]; exact this
 rw[← hNA] at hd
 have bO:∀ k,tpOs (t.objects.take k) m NA≤tpB m∧NA≤tpOs (t.objects.take k) m NA:=fun k=>⟨tp_bndOs _ m NA (dlOs_iff.2 fun o ho=>d4 o (List.mem_of_mem_take ho)) (by omega) bNA.1,tpOs_mono _ _ _⟩
 generalize tpT t m=H at *
 have w01:=wrap64 (n:=1+(t.texts.length:Int)) (by omega) (by omega)
 have w02:=wrap64 (n:=1+(t.texts.length:Int)+t.nums.length) (by omega) (by omega)
 simp[w01,w02]
 intro v
 have key:∀ (st:St),LS st ⟨[(7,.int .i64 0),(5,.int .i64 (NA:Nat)),(2,.ptr (2,v) 9 0 0),(1,.int .i64 m)],[((2,v),some ⟨9,[cT t],false,true⟩)]⟩ →
  XLoop ⟨prog,w0,F0,113,[],0,hG⟩ (.loop M.b_kit_typeParts_2) st [.bk 2,.sq M.t_kit_typeParts_0] (retIs M.rs_kit_typeParts (.int .i64 (H:Nat))):=fun st hst=>by
  obtain⟨J,hJ⟩ : ∃ J:Nat→Nat→Prop,J=fun k n=>n=tpOs (t.objects.take k) m NA:=⟨_,rfl⟩
  refine XLoop.cnt hmix t.objects.length (fun k n=>⟨[(7,.int .i64 k),(5,.int .i64 (n:Nat)),(2,.ptr (2,v) 9 0 0),(1,.int .i64 m)],[((2,v),some ⟨9,[cT t],false,true⟩)]⟩) J NA (by rw[hJ]; simp[tpOs]) (by simpa using hst) fun k n hk hj=>?_
  have hw:=wrap64 (n:=(k:Int)+1) (by omega) (by omega)
  have hj' : n=tpOs (t.objects.take k) m NA:=by rw[hJ] at hj; exact hj
  have bn:=bO k
  rw[← hj'] at bn
  by_cases h1:k<t.objects.length
  ·have hto:=tpOs_take m t.objects k NA h1
   rw[← hj'] at hto
   obtain⟨q1,q2,q3,q4⟩:=d4 _ (List.getElem_mem h1)
   have hof:t.objects[k].fields.length≤140737488355328:=by
    have:=bndR_map z4' t.objects[k] (List.getElem_mem h1)
    simp only[encObj_eq,bndL,bndV,List.length_map,LIM,and_true] at this
    omega
   by_cases h2:n≤m
   ·rw[if_pos h2] at hto
    have w1:=wrap64 (n:=(m:Int)-n) (by omega) (by omega)
    have e1:(m:Int)-n=((m-n:Nat):Int):=by omega
    rw[e1] at w1
    have ih:=hR _ (List.getElem_mem h1) (m-n) (by omega)
    have b1:=tp_bnd t.objects[k].rest (m-n) q4
    have b2:=tpB_step (m:=m) (n:=n) (by omega) h2
    generalize tpT t.objects[k].rest (m-n)=q at *
    have w2:=wrap64 (n:=(n:Int)+t.objects[k].names.length) (by omega) (by omega)
    have w3:=wrap64 (n:=(n:Int)+t.objects[k].names.length+t.objects[k].must.length) (by omega) (by omega)
    have w4:=wrap64 (n:=(n:Int)+t.objects[k].names.length+t.objects[k].must.length+q) (by omega) (by omega)
    obtain⟨n2,hn2⟩ : ∃ n2,n2=n+t.objects[k].names.length+t.objects[k].must.length+q:=⟨_,rfl⟩
    have e4:(n:Int)+t.objects[k].names.length+t.objects[k].must.length+q=(n2:Int):=by omega
    rw[e4] at w4
    rw[← hn2] at hto
    simp[h1,h2,e1,w1,w2,w3]
    intros
    refine XDCall.ret ih ?_
    simp[w2,w3,w4,e4]
    have bT:∀ i,tpTs (t.objects[k].fields.take i) m n2≤tpB m∧n2≤tpTs (t.objects[k].fields.take i) m n2:=fun i=>⟨tp_bndTs _ m n2 (dlTs_iff.2 fun o ho=>q3 o (List.mem_of_mem_take ho)) (by omega) (by omega),tpTs_mono _ _ _⟩
    obtain⟨J',hJ'⟩ : ∃ J:Nat→Nat→Prop,J=fun i n=>n=tpTs (t.objects[k].fields.take i) m n2:=⟨_,rfl⟩
    refine XLoop.cnt hmix t.objects[k].fields.length (fun i n=>⟨[(8,.int .i64 i),(7,.int .i64 k),(5,.int .i64 (n:Nat)),(2,.ptr (2,v) 9 0 0),(1,.int .i64 m)],[((2,v),some ⟨9,[cT t],false,true⟩)]⟩) J' n2 (by rw[hJ']; simp[tpTs]) (by simp) fun i n' hi hj2=>?_
    have hw2:=wrap64 (n:=(i:Int)+1) (by omega) (by omega)
    have hj3:n'=tpTs (t.objects[k].fields.take i) m n2:=by rw[hJ'] at hj2; exact hj2
    have bn':=bT i
    rw[← hj3] at bn'
    by_cases h3:i<t.objects[k].fields.length
    ·have hts:=tpTs_take m t.objects[k].fields i n2 h3
     rw[← hj3] at hts
     by_cases h4:n'≤m
     ·rw[if_pos h4] at hts
      have w1':=wrap64 (n:=(m:Int)-n') (by omega) (by omega)
      have e1' : (m:Int)-n'=((m-n' : Nat):Int):=by omega
      rw[e1'] at w1'
      have ih':=hF _ (List.getElem_mem h1) _ (List.getElem_mem h3) (m-n') (by omega)
      have b1':=tp_bnd t.objects[k].fields[i] (m-n') (q3 _ (List.getElem_mem h3))
      have b2':=tpB_step (m:=m) (n:=n') (by omega) h4
      generalize tpT t.objects[k].fields[i] (m-n')=q' at *
      have w5:=wrap64 (n:=(n' : Int)+q') (by omega) (by omega)
      simp[h1,h3,h4,e1',w1']
      refine XCall.ret ih' ?_
      simp[w5,hw2,h3]
      exact⟨n'+q',by rw[hJ']; exact hts.symm,by simp⟩
     ·have hstop:=tpTs_stop (m:=m) (l:=t.objects[k].fields) (k:=i) (n:=n2) (by omega)
      simp[h1,h3,h4,hw]
      exact⟨n',by rw[hJ]; show _=_; rw[hto,hstop,hj3],rfl⟩
    ·have e0:t.objects[k].fields.take i=t.objects[k].fields:=List.take_of_length_le (by omega)
     rw[e0] at hj3
     simp[h1,h3,hw]
     exact⟨n',by rw[hJ]; show _=_; rw[hto,hj3],rfl⟩
   ·have hstop:=tpOs_stop (m:=m) (l:=t.objects) (k:=k) (n:=NA) (by omega)
    simp[h1,h2]
    rw[hd,hstop,hj']
  ·have e0:t.objects.take k=t.objects:=List.take_of_length_le (by omega)
   rw[e0] at hj'
   simp[h1]
   rw[hd,hj']
 obtain⟨J,hJ⟩ : ∃ J:Nat→Nat→Prop,J=fun k n=>n=tpAs (t.arrays.take k) m N0:=⟨_,rfl⟩
 refine XLoop.cnt hmix t.arrays.length (fun k n=>⟨[(6,.int .i64 k),(5,.int .i64 (n:Nat)),(2,.ptr (2,v) 9 0 0),(1,.int .i64 m)],[((2,v),some ⟨9,[cT t],false,true⟩)]⟩) J N0 (by rw[hJ]; simp[tpAs]) (by simp[hN0]) fun k n hk hj=>?_
 have hw:=wrap64 (n:=(k:Int)+1) (by omega) (by omega)
 have hj' : n=tpAs (t.arrays.take k) m N0:=by rw[hJ] at hj; exact hj
 have bn:=bA k
 rw[← hj'] at bn
 by_cases h1:k<t.arrays.length
 ·have hta:=tpAs_take m t.arrays k N0 h1
  rw[← hj'] at hta
  by_cases h2:n≤m
  ·rw[if_pos h2] at hta
   have w1:=wrap64 (n:=(m:Int)-n) (by omega) (by omega)
   have e1:(m:Int)-n=((m-n:Nat):Int):=by omega
   rw[e1] at w1
   have ih:=hA _ (List.getElem_mem h1) (m-n) (by omega)
   have b1:=tp_bnd t.arrays[k].item (m-n) (d3 _ (List.getElem_mem h1))
   have b2:=tpB_step (m:=m) (n:=n) (by omega) h2
   generalize tpT t.arrays[k].item (m-n)=q at *
   have w2:=wrap64 (n:=(n:Int)+q) (by omega) (by omega)
   simp[h1,h2,e1,w1]
   refine XCall.ret ih ?_
   simp[w2,hw,h1]
   exact⟨n+q,by rw[hJ]; exact hta.symm,by simp⟩
  ·have hstop:=tpAs_stop (m:=m) (l:=t.arrays) (k:=k) (n:=N0) (by omega)
   have e2:n=NA:=by rw[hNA,hstop,hj']
   simp[h1,h2]
   exact key _ (by simp[e2])
 ·have e0:t.arrays.take k=t.arrays:=List.take_of_length_le (by omega)
  rw[e0] at hj'
  have e2:n=NA:=by rw[hNA,hj']
  simp[h1]
  exact key _ (by simp[e2])
theorem c_kit_typeParts (t:Ty):∀ m:Nat,m≤20000→Ret prog M.F_kit_typeParts [.agg (cT t),.int .i64 (m:Nat)] (.int .i64 (tpT t m:Nat)):=by
 induction hn:SizeOf.sizeOf t using Nat.strongRecOn generalizing t with
 | _ n ih =>
   subst hn
   intro m hm
   exact typeParts_step t m hm (dl_of_bnd t) (fun a ha k hk=>ih _ (sz_item ha) a.item rfl k (by omega)) (fun o ho k hk=>ih _ (sz_rest ho) o.rest rfl k (by omega)) (fun o ho f hf k hk=>ih _ (sz_field ho hf) f rfl k (by omega))
def fitB (t:Ty):Bool:=decide (tpT t 20000≤20000)
theorem c_kit_FitType (t:Ty):Ret prog M.F_kit_FitType [.agg (cT t)] (.bool (fitB t)):=by
 refine Ret.go hmix h_kit_FitType (by simp) fun hb w0 F0 hG=>?_
 simp
 intros
 refine XCall.ret (c_kit_typeParts t 20000 (by omega)) ?_
 simp[fitB]; omega
theorem fit_height {t:Ty} (h:fitB t=true):heightT t<2 ^ 62:=by
 have h1:=(fit_bdT (of_decide_eq_true h)).2.1
 have:=ht_sz t
 omega
end Go.Proofs.YtbdogkmdanmojaaGreatDoor.Pv
namespace Go.Tidy
open Go
theorem get_list (l:List UInt8) (k:Nat):(ByteArray.mk l.toArray).get! k=l.getD k 0:=by
 simp[ByteArray.get!,List.getD,getElem!_def]
 cases l[k]?<;>rfl
theorem u8le (a b:UInt8):(a≤b)=(a.toNat≤b.toNat):=propext UInt8.le_iff_toNat_le
theorem u8lt (a b:UInt8):(a<b)=(a.toNat<b.toNat):=propext UInt8.lt_iff_toNat_lt
theorem u8eq (a b:UInt8):(a=b)=(a.toNat=b.toNat):=propext UInt8.toNat_inj.symm
set_option maxHeartbeats 4000000 in
theorem decode_width (c:UInt8) (l:List UInt8):((Lib.decodeL (c::l)).1=65533∧(Lib.decodeL (c::l)).2=1↔width (c::l)=0)∧(width (c::l)≠0→(Lib.decodeL (c::l)).2=width (c::l)):=by
 have hc:=c.toNat_lt
 have e128:UInt8.toNat 128=128:=rfl
 have e143:UInt8.toNat 143=143:=rfl
 have e144:UInt8.toNat 144=144:=rfl
 have e159:UInt8.toNat 159=159:=rfl
 have e160:UInt8.toNat 160=160:=rfl
 have e191:UInt8.toNat 191=191:=rfl
 unfold Lib.decodeL Utf8.decode width trail
 simp only[get_list,Utf8.runeError,Utf8.valid]
 have hs:(ByteArray.mk (c::l).toArray).size=l.length+1:=by simp[ByteArray.size]
 simp only[hs]
 match l with
 | [] =>
   simp[u8le,u8lt,u8eq]
   repeat' split
   all_goals simp
   all_goals omega
 | [d] =>
   have hd:=d.toNat_lt
   simp[u8le,u8lt,u8eq]
   repeat' split
   all_goals simp
   all_goals omega
 | [d,e] =>
   have hd:=d.toNat_lt
   have he:=e.toNat_lt
   simp[u8le,u8lt,u8eq]
   repeat' split
   all_goals simp
   all_goals omega
 | d::e::f::l =>
   have hd:=d.toNat_lt
   have he:=e.toNat_lt
   have hf:=f.toNat_lt
   simp[u8le,u8lt,u8eq]
   repeat' split
   all_goals simp
   all_goals omega
theorem trail_le {l:List UInt8} {n:Nat} {lo hi:UInt8} (h:trail l n lo hi=true):n≤l.length:=by
 simp[trail] at h; exact h.1.1
theorem width_le (l:List UInt8):width l≤l.length:=by
 cases l with
 | nil=>simp[width]
 | cons c l =>
   simp only[width]
   repeat' split
   all_goals first
     | (simp; done)
     | (rename_i h; simp only[Bool.and_eq_true] at h; have:=trail_le h.2; simp; omega)
theorem valid_utf:∀ (n:Nat) (l:List UInt8),l.length≤n→Lib.validGoD n l=utfL n l
 | 0,l,h=>by
   have:l=[]:=List.eq_nil_of_length_eq_zero (by omega)
   subst this; rfl
 | n+1,[],_=>by simp[Lib.validGoD,utfL]
 | n+1,c::l,h=>by
   have hd:=decode_width c l
   have hw:=width_le (c::l)
   simp only[Lib.validGoD,utfL,List.isEmpty_cons,Bool.false_or]
   rw[if_neg (by simp)]
   by_cases h0:width (c::l)=0
   ·rw[if_pos (hd.1.2 h0),h0]; simp
   ·rw[if_neg (fun h=>h0 (hd.1.1 h)),hd.2 h0]
    have:(width (c::l) != 0)=true:=by simpa using h0
    rw[this,Bool.true_and]
    refine valid_utf n _ ?_
    simp at h ⊢
    omega
theorem validD_utfB (s:S):Lib.validD s.data.toList=utfB s:=valid_utf _ _ (Nat.le_refl _)
end Go.Tidy
set_option maxRecDepth 100000
namespace Go.Proofs.YtbdogkmdanmojaaGreatDoor
open Go Go.Shelf
def Tryz.laysValid_ren:Go.Shelf.Ren:=⟨fun|196=>355|259=>446|n=>n,fun|9=>9|4=>4|3=>3|5=>5|12=>12|119=>382|0=>0|46=>180|139=>385|138=>384|53=>345|n=>n,fun|3=>0|4=>1|n=>n⟩
theorem Tryz.laysValid:Go.Proofs.Lays.n196 Tryz.prog Tryz.laysValid_ren:={
 mixed:=by kernel_rfl
 f196:=Tryz.func355.trans (congrArg some (by kernel_rfl))
 f259:=Tryz.func446.trans (congrArg some (by kernel_rfl))
 t0:=Tryz.underlying0
 a0:=Tryz.isAgg0
 z0:=Tryz.sizeOf0
 v0:=Tryz.zeroValue0
 t3:=Tryz.underlying3
 a3:=Tryz.isAgg3
 z3:=Tryz.sizeOf3
 v3:=Tryz.zeroValue3
 t4:=Tryz.underlying4
 a4:=Tryz.isAgg4
 z4:=Tryz.sizeOf4
 v4:=Tryz.zeroValue4
 t5:=Tryz.underlying5
 a5:=Tryz.isAgg5
 z5:=Tryz.sizeOf5
 v5:=Tryz.zeroValue5
 t9:=Tryz.underlying9
 a9:=Tryz.isAgg9
 z9:=Tryz.sizeOf9
 v9:=Tryz.zeroValue9
 t12:=Tryz.underlying12
 a12:=Tryz.isAgg12
 z12:=Tryz.sizeOf12
 v12:=Tryz.zeroValue12
 t46:=Tryz.underlying180
 a46:=Tryz.isAgg180
 z46:=Tryz.sizeOf180
 v46:=Tryz.zeroValue180
 t53:=Tryz.underlying345
 a53:=Tryz.isAgg345
 z53:=Tryz.sizeOf345
 v53:=Tryz.zeroValue345
 t119:=Tryz.underlying382
 a119:=Tryz.isAgg382
 z119:=Tryz.sizeOf382
 t138:=Tryz.underlying384
 a138:=Tryz.isAgg384
 z138:=Tryz.sizeOf384
 v138:=Tryz.zeroValue384
 t139:=Tryz.underlying385
 a139:=Tryz.isAgg385
 z139:=Tryz.sizeOf385
 v139:=Tryz.zeroValue385
 g3:=by kernel_rfl
 g4:=by kernel_rfl }
def Tryz.laysItoa_ren:Go.Shelf.Ren:=⟨fun|171=>158|243=>267|246=>347|283=>438|284=>439|285=>440|286=>441|129=>389|317=>503|318=>504|319=>505|320=>506|337=>539|338=>540|n=>n,fun|3=>3|9=>9|2=>2|4=>4|171=>376|0=>0|53=>345|37=>220|5=>5|173=>378|212=>425|51=>343|20=>20|213=>426|46=>180|232=>461|233=>462|n=>n,fun|17=>2|18=>4|19=>5|n=>n⟩
theorem Tryz.laysItoa:Go.Proofs.LaysM.n171 Tryz.prog Tryz.laysItoa_ren:={
 mixed:=by kernel_rfl
 f129:=Tryz.func389.trans (congrArg some (by kernel_rfl))
 f171:=Tryz.func158.trans (congrArg some (by kernel_rfl))
 f243:=Tryz.func267.trans (congrArg some (by kernel_rfl))
 f246:=Tryz.func347.trans (congrArg some (by kernel_rfl))
 f283:=Tryz.func438.trans (congrArg some (by kernel_rfl))
 f284:=Tryz.func439.trans (congrArg some (by kernel_rfl))
 f285:=Tryz.func440.trans (congrArg some (by kernel_rfl))
 f286:=Tryz.func441.trans (congrArg some (by kernel_rfl))
 f317:=Tryz.func503.trans (congrArg some (by kernel_rfl))
 f318:=Tryz.func504.trans (congrArg some (by kernel_rfl))
 f319:=Tryz.func505.trans (congrArg some (by kernel_rfl))
 f320:=Tryz.func506.trans (congrArg some (by kernel_rfl))
 f337:=Tryz.func539.trans (congrArg some (by kernel_rfl))
 f338:=Tryz.func540.trans (congrArg some (by kernel_rfl))
 t0:=Tryz.underlying0
 a0:=Tryz.isAgg0
 z0:=Tryz.sizeOf0
 v0:=Tryz.zeroValue0
 t2:=Tryz.underlying2
 a2:=Tryz.isAgg2
 z2:=Tryz.sizeOf2
 v2:=Tryz.zeroValue2
 t3:=Tryz.underlying3
 a3:=Tryz.isAgg3
 z3:=Tryz.sizeOf3
 v3:=Tryz.zeroValue3
 t4:=Tryz.underlying4
 a4:=Tryz.isAgg4
 z4:=Tryz.sizeOf4
 v4:=Tryz.zeroValue4
 t5:=Tryz.underlying5
 a5:=Tryz.isAgg5
 z5:=Tryz.sizeOf5
 v5:=Tryz.zeroValue5
 t9:=Tryz.underlying9
 a9:=Tryz.isAgg9
 z9:=Tryz.sizeOf9
 v9:=Tryz.zeroValue9
 t20:=Tryz.underlying20
 a20:=Tryz.isAgg20
 z20:=Tryz.sizeOf20
 v20:=Tryz.zeroValue20
 t37:=Tryz.underlying220
 a37:=Tryz.isAgg220
 z37:=Tryz.sizeOf220
 v37:=Tryz.zeroValue220
 t46:=Tryz.underlying180
 a46:=Tryz.isAgg180
 z46:=Tryz.sizeOf180
 v46:=Tryz.zeroValue180
 t51:=Tryz.underlying343
 a51:=Tryz.isAgg343
 z51:=Tryz.sizeOf343
 v51:=Tryz.zeroValue343
 t53:=Tryz.underlying345
 a53:=Tryz.isAgg345
 z53:=Tryz.sizeOf345
 v53:=Tryz.zeroValue345
 t171:=Tryz.underlying376
 a171:=Tryz.isAgg376
 z171:=Tryz.sizeOf376
 v171:=Tryz.zeroValue376
 t173:=Tryz.underlying378
 a173:=Tryz.isAgg378
 z173:=Tryz.sizeOf378
 v173:=Tryz.zeroValue378
 t212:=Tryz.underlying425
 a212:=Tryz.isAgg425
 z212:=Tryz.sizeOf425
 v212:=Tryz.zeroValue425
 t213:=Tryz.underlying426
 a213:=Tryz.isAgg426
 z213:=Tryz.sizeOf426
 t232:=Tryz.underlying461
 a232:=Tryz.isAgg461
 z232:=Tryz.sizeOf461
 v232:=Tryz.zeroValue461
 t233:=Tryz.underlying462
 a233:=Tryz.isAgg462
 z233:=Tryz.sizeOf462
 v233:=Tryz.zeroValue462
 g17:=by kernel_rfl
 g18:=by kernel_rfl
 g19:=by kernel_rfl
 i0:=by kernel_rfl
 i2:=by kernel_rfl
 i3:=by kernel_rfl
 i4:=by kernel_rfl
 i5:=by kernel_rfl
 i9:=by kernel_rfl
 i20:=by kernel_rfl
 i37:=by kernel_rfl
 i46:=by kernel_rfl
 i51:=by kernel_rfl
 i53:=by kernel_rfl
 i171:=by kernel_rfl
 i173:=by kernel_rfl
 i212:=by kernel_rfl
 i232:=by kernel_rfl
 i233:=by kernel_rfl
 m17:=by kernel_rfl
 m18:=by kernel_rfl
 m19:=by kernel_rfl }
def Tryz.laysClone_ren:Go.Shelf.Ren:=⟨fun|316=>356|n=>n,fun|9=>9|3=>3|4=>4|37=>220|0=>0|127=>288|5=>5|n=>n,fun|n=>n⟩
theorem Tryz.laysClone:Go.Proofs.LaysM.n316 Tryz.prog Tryz.laysClone_ren:={
 mixed:=by kernel_rfl
 f316:=Tryz.func356.trans (congrArg some (by kernel_rfl))
 t0:=Tryz.underlying0
 a0:=Tryz.isAgg0
 z0:=Tryz.sizeOf0
 v0:=Tryz.zeroValue0
 t3:=Tryz.underlying3
 a3:=Tryz.isAgg3
 z3:=Tryz.sizeOf3
 v3:=Tryz.zeroValue3
 t4:=Tryz.underlying4
 a4:=Tryz.isAgg4
 z4:=Tryz.sizeOf4
 v4:=Tryz.zeroValue4
 t9:=Tryz.underlying9
 a9:=Tryz.isAgg9
 z9:=Tryz.sizeOf9
 v9:=Tryz.zeroValue9
 t37:=Tryz.underlying220
 a37:=Tryz.isAgg220
 z37:=Tryz.sizeOf220
 v37:=Tryz.zeroValue220
 t127:=Tryz.underlying288
 a127:=Tryz.isAgg288
 z127:=Tryz.sizeOf288
 v127:=Tryz.zeroValue288
 t5:=Tryz.underlying5
 a5:=Tryz.isAgg5
 z5:=Tryz.sizeOf5
 v5:=Tryz.zeroValue5
 i0:=by kernel_rfl
 i3:=by kernel_rfl
 i4:=by kernel_rfl
 i5:=by kernel_rfl
 i9:=by kernel_rfl
 i37:=by kernel_rfl
 i127:=by kernel_rfl }
end Go.Proofs.YtbdogkmdanmojaaGreatDoor
namespace Go.Proofs.YtbdogkmdanmojaaGreatDoor.Pv
open Go Go.Tidy
theorem first_at:∀ c:Fin 256,utf8First[c.1]? = some (Lib.firstT c.1):=by decide +kernel
theorem accept_at:∀ i:Fin 16,utf8Accept[2*i.1]? = some (Lib.accLo i.1)∧utf8Accept[2*i.1+1]? = some (Lib.accHi i.1):=by decide +kernel
theorem tabs_ok {w:World} {F:Nat→Prop} (hG:GOk prog w F):Lib.Utf8Tabs (Tryz.laysValid_ren.g 3) (Tryz.laysValid_ren.g 4) w:=by
 have h3:gTab prog (Tryz.laysValid_ren.g 3)=some utf8First:=by kernel_rfl
 have h4:gTab prog (Tryz.laysValid_ren.g 4)=some utf8Accept:=by kernel_rfl
 exact⟨fun c hc=>((hG.1 _ _ h3).2.2 c _ (first_at ⟨c,hc⟩)).1,fun i hi=>⟨((hG.1 _ _ h4).2.2 _ _ (accept_at ⟨i,hi⟩).1).1,((hG.1 _ _ h4).2.2 _ _ (accept_at ⟨i,hi⟩).2).1⟩⟩
theorem c_utf8_ValidString (s:S):Ret prog M.F_utf8_ValidString [.str s] (.bool (utfB s)):=by
 refine⟨by kernel_rfl,fun w F vs hG hF hr=>?_⟩
 obtain⟨v,us,rfl,hv,hus⟩:=hr
 obtain rfl:us=[]:=hus
 obtain⟨rfl,hs⟩:=hv
 have h:Calls prog M.F_utf8_ValidString #[.string s] w _:=Any.utf8_ValidString Tryz.laysValid s w (by unfold LIM at hs; omega) (tabs_ok hG)
 refine Calls.mono h ?_
 rintro e w' ⟨rfl,hb⟩
 exact⟨_,F,rfl,Bel.of hb,fun _ h=>h,fun b hb'=>⟨Nat.lt_of_lt_of_le (hF b hb') hb.size,.inl hb'⟩,by rw[validD_utfB]; rfl⟩
end Go.Proofs.YtbdogkmdanmojaaGreatDoor.Pv
set_option maxRecDepth 100000
namespace Go.Proofs.YtbdogkmdanmojaaGreatDoor.Pv
open Go Go.Tidy
theorem c_utf_Valid (s:S):Ret prog M.F_utf_Valid [.str s] (.bool (utfB s)):=by
 refine Ret.go hmix h_utf_Valid (by simp) fun hb w0 F0 hG=>?_
 simp
 refine XCall.ret (c_utf8_ValidString s) ?_
 simp
theorem c_shape_Every:Ret prog M.F_shape_Every [] (.agg (cT tEvery)):=by
 refine Ret.go hmix h_shape_Every (by simp) fun hb w0 F0 hG=>?_
 simp[tEvery]
theorem not_rise {l:List S} {k:Nat} (hk:k<l.length) (h:¬ (utfB l[k]=true∧∀ h:0<k,sLt (l[k-1]'(by omega)) l[k]=true)):riseB l=false:=by
 cases hr:riseB l
 ·rfl
 ·exact absurd (riseB_at hk hr) h
set_option maxHeartbeats 4000000 in
theorem c_shape_rise (l:List S):Ret prog M.F_shape_rise [.vec 1 false (l.map encStr)] (.bool (riseB l)):=by
 refine Ret.go hmix h_shape_rise (by simp) fun hb w0 F0 hG=>?_
 simp only[bndL,bndV,List.length_map,LIM,and_true] at hb
 generalize hB:riseB l=B
 simp
 obtain⟨J,hJ⟩ : ∃ J:Nat→Unit→Prop,J=fun k _=>RiseTo l k:=⟨_,rfl⟩
 refine XLoop.cnt hmix l.length (fun k _=>⟨[(7,.int .i64 k),(6,.int .i64 l.length),(5,.vec 1 false (l.map encStr)),(0,.vec 1 false (l.map encStr))],[]⟩) J () (by rw[hJ]; exact fun j _ h=>absurd h (by omega)) (by simp) fun k _ hk hj=>?_
 have hw:=wrap64 (n:=(k:Int)+1) (by omega) (by omega)
 have hj' : RiseTo l k:=by rw[hJ] at hj; exact hj
 by_cases g:k<l.length
 ·simp[g]
  refine XCall.ret (c_utf_Valid l[k]) ?_
  cases e1:utfB l[k]
  ·have:B=false:=by rw[← hB]; exact not_rise g (fun h=>by rw[e1] at h; cases h.1)
   simp[this]
  ·by_cases g0:0<k
   ·have g0' : (0:Int)<k:=by omega
    have wm:=wrap64 (n:=(k:Int)-1) (by omega) (by omega)
    have em:(k:Int)-1=((k-1:Nat):Int):=by omega
    have g1:k-1<l.length:=by omega
    rw[em] at wm
    cases e2:sLt l[k-1] l[k]
    ·have:B=false:=by rw[← hB]; exact not_rise g (fun h=>by have:=h.2 g0; rw[e2] at this; cases this)
     simp[g0',g0,g,g1,wm,em,e2,this]
    ·simp[g0',g0,g,g1,wm,em,e2,hw]
     exact⟨(),by rw[hJ]; exact hj'.step g e1 fun _=>e2⟩
   ·have g0' : ¬ (0:Int)<k:=by omega
    simp[g0',g0,g,hw]
    exact⟨(),by rw[hJ]; exact hj'.step g e1 fun h=>absurd h g0⟩
 ·have:B=true:=by rw[← hB]; exact riseB_of fun i hi=>hj' i hi (by omega)
  simp[g,this]
theorem dec_nil {α:Type} (l:List α) [Decidable (l=[])]:decide (l=[])=l.isEmpty:=by cases l<;>simp
theorem c_shape_piece_bare (t:Ty):Ret prog M.F_shape_piece_bare [.agg (cT t)] (.bool (bare t)):=by
 refine Ret.go hmix h_shape_piece_bare (by simp) fun hb w0 F0 hG=>?_
 unfold bare
 simp
 rw[dec_nil,dec_nil,dec_nil,dec_nil]
 cases t.null<;>cases t.fls<;>cases t.tru<;>cases t.any<;>simp
theorem c_shape_never (t:Ty):Ret prog M.F_shape_never [.agg (cT t)] (.bool (never t)):=by
 refine Ret.go hmix h_shape_never (by simp) fun hb w0 F0 hG=>?_
 unfold never
 cases h:t.all
 ·simp[h]
  intros
  refine XCall.ret (by have:=c_shape_piece_bare t; unfold cT at this; rw[h] at this; exact this) ?_
  simp
 ·simp[h]
theorem c_shape_piece_every (t:Ty):Ret prog M.F_shape_piece_every [.agg (cT t)] (.bool (!t.all||bare t)):=by
 refine Ret.go hmix h_shape_piece_every (by simp) fun hb w0 F0 hG=>?_
 cases h:t.all
 ·simp[h]
 ·simp[h]
  intros
  refine XCall.ret (by have:=c_shape_piece_bare t; unfold cT at this; rw[h] at this; exact this) ?_
  simp
theorem c_shape_piece_texts (t:Ty):Ret prog M.F_shape_piece_texts [.agg (cT t)] (.bool (riseB t.texts&&(!t.any||t.texts.isEmpty))):=by
 refine Ret.go hmix h_shape_piece_texts (by simp) fun hb w0 F0 hG=>?_
 simp
 intros
 refine XCall.ret (c_shape_rise t.texts) ?_
 cases h1:riseB t.texts
 ·simp
 ·cases h2:t.any
  ·simp[h2]
  ·simp[h2,dec_nil]
set_option maxHeartbeats 4000000 in
theorem c_shape_piece_nums (t:Ty):Ret prog M.F_shape_piece_nums [.agg (cT t)] (.bool (decide (t.nums.length≤1)&&t.nums.all spanB)):=by
 refine Ret.go hmix h_shape_piece_nums (by simp) fun hb w0 F0 hG=>?_
 simp only[bndL,bndV,List.length_map,LIM,and_true] at hb
 generalize hB:t.nums.all spanB=B
 simp
 intro v
 obtain⟨J,hJ⟩ : ∃ J:Nat→Unit→Prop,J=fun k _=>AllTo spanB t.nums k:=⟨_,rfl⟩
 refine XLoop.cnt hmix t.nums.length (fun k _=>⟨[(10,.int .i64 k),(9,.int .i64 t.nums.length),(8,.vec 2 false (t.nums.map encSpan)),(1,.ptr (1,v) 9 0 0)],[((1,v),some ⟨9,[cT t],false,true⟩)]⟩) J () (by rw[hJ]; exact .zero) (by simp) fun k _ hk hj=>?_
 have hw:=wrap64 (n:=(k:Int)+1) (by omega) (by omega)
 have hj' : AllTo spanB t.nums k:=by rw[hJ] at hj; exact hj
 by_cases h1:k<t.nums.length
 ·have no:spanB t.nums[k]=false→B=false:=fun h=>hB ▸ all_not h1 h
  have yes:spanB t.nums[k]=true→J (k+1) ():=fun h=>by rw[hJ]; exact hj'.step h1 h
  have hs:spanB t.nums[k]=(boundB t.nums[k].low&&boundB t.nums[k].high&&(sEmp t.nums[k].low||sEmp t.nums[k].high||(numCmp t.nums[k].low t.nums[k].high).isLE)):=rfl
  unfold boundB at hs
  cases e1:sEmp t.nums[k].low
  ·cases e2:sEmp t.nums[k].high
   ·simp[h1,e1,e2]
    intros
    refine XDCall.ret (c_tens_Formed t.nums[k].low) ?_
    simp[h1,e1,e2]
    refine XDCall.ret (c_tens_Formed t.nums[k].high) ?_
    cases n1:numB t.nums[k].low
    ·simp[n1,e1,e2,h1,no (by rw[hs,e1,n1]; simp)]
    ·cases n2:numB t.nums[k].high
     ·simp[n1,n2,e1,e2,h1,no (by rw[hs,e2,n2]; simp)]
     ·rw[e1,e2,n1,n2] at hs
      simp[n1,n2,e1,e2]
      refine XCall.ret (c_shape_worth t.nums[k].low t.nums[k].high) ?_
      simp[worthI,n1,n2]
      cases hc:numCmp t.nums[k].low t.nums[k].high<;>rw[hc] at hs
      ·simp[hw,h1]; exact⟨(),yes (by rw[hs]; rfl)⟩
      ·simp[hw,h1]; exact⟨(),yes (by rw[hs]; rfl)⟩
      ·simp[no (by rw[hs]; rfl)]
   ·simp[h1,e1,e2]
    intros
    refine XDCall.ret (c_tens_Formed t.nums[k].low) ?_
    cases n1:numB t.nums[k].low
    ·simp[n1,e1,e2,h1,no (by rw[hs,e1,n1]; simp)]
    ·simp[n1,e1,e2,hw,h1]
     exact⟨(),yes (by rw[hs,e1,e2,n1]; simp)⟩
  ·cases e2:sEmp t.nums[k].high
   ·simp[h1,e1,e2]
    intros
    refine XDCall.ret (c_tens_Formed t.nums[k].high) ?_
    cases n2:numB t.nums[k].high
    ·simp[n2,e1,e2,h1,no (by rw[hs,e2,n2]; simp)]
    ·simp[n2,e1,e2,hw,h1]
     exact⟨(),yes (by rw[hs,e1,e2,n2]; simp)⟩
   ·simp[e1,e2,hw,h1]
    exact⟨(),yes (by rw[hs,e1,e2]; simp)⟩
 ·have:B=true:=by rw[← hB]; exact hj'.all h1
  simp[h1,this]
  omega
end Go.Proofs.YtbdogkmdanmojaaGreatDoor.Pv
set_option maxRecDepth 100000
namespace Go.Proofs.YtbdogkmdanmojaaGreatDoor.Pv
open Go Go.Tidy
set_option maxHeartbeats 4000000 in
theorem piece_arrays (t:Ty) (ih:∀ a∈t.arrays,Ret prog M.F_shape_Formed [.agg (cT a.item)] (.bool (formedT a.item))):Ret prog M.F_shape_piece_arrays [.agg (cT t)] (.bool (decide (t.arrays.length≤1)&&t.arrays.all formedA)):=by
 refine Ret.go hmix h_shape_piece_arrays (by simp) fun hb w0 F0 hG=>?_
 simp only[bndL,bndV,List.length_map,LIM,and_true] at hb
 generalize hB:t.arrays.all formedA=B
 simp
 intro v
 obtain⟨J,hJ⟩ : ∃ J:Nat→Unit→Prop,J=fun k _=>AllTo formedA t.arrays k:=⟨_,rfl⟩
 refine XLoop.cnt hmix t.arrays.length (fun k _=>⟨[(8,.int .i64 k),(7,.int .i64 t.arrays.length),(6,.vec 11 false (t.arrays.map encArr)),(1,.ptr (1,v) 9 0 0)],[((1,v),some ⟨9,[cT t],false,true⟩)]⟩) J () (by rw[hJ]; exact .zero) (by simp) fun k _ hk hj=>?_
 have hw:=wrap64 (n:=(k:Int)+1) (by omega) (by omega)
 have hj' : AllTo formedA t.arrays k:=by rw[hJ] at hj; exact hj
 by_cases h1:k<t.arrays.length
 ·have no:formedA t.arrays[k]=false→B=false:=fun h=>hB ▸ all_not h1 h
  have yes:formedA t.arrays[k]=true→J (k+1) ():=fun h=>by rw[hJ]; exact hj'.step h1 h
  have hs:formedA t.arrays[k]=(decide (0≤t.arrays[k].min)&&decide (-1≤t.arrays[k].max)&&(decide (t.arrays[k].max<0)||decide (t.arrays[k].min≤t.arrays[k].max))&&formedT t.arrays[k].item&&(never t.arrays[k].item == decide (t.arrays[k].max=0))):=by
   cases t.arrays[k]; rfl
  have ih':=ih t.arrays[k] (List.getElem_mem h1)
  by_cases g1:t.arrays[k].min<0
  ·have g1' : ¬ 0≤t.arrays[k].min:=by omega
   simp[h1,g1,no (by rw[hs]; simp[g1'])]
  by_cases g2:t.arrays[k].max < -1
  ·have g2' : ¬ -1≤t.arrays[k].max:=by omega
   simp[h1,g1,g2,no (by rw[hs]; simp[g2'])]
  have g1' : 0≤t.arrays[k].min:=by omega
  have g2' : -1≤t.arrays[k].max:=by omega
  by_cases g34:0≤t.arrays[k].max∧t.arrays[k].max<t.arrays[k].min
  ·obtain⟨g3,g4⟩:=g34
   have g3' : ¬ t.arrays[k].max<0:=by omega
   have g4' : ¬ t.arrays[k].min≤t.arrays[k].max:=by omega
   simp[h1,g1,g2,g3,g4,no (by rw[hs]; simp[g3',g4'])]
  have g6:(decide (t.arrays[k].max<0)||decide (t.arrays[k].min≤t.arrays[k].max))=true:=by simp; omega
  rw[g6,decide_eq_true g1',decide_eq_true g2'] at hs
  by_cases g3:0≤t.arrays[k].max
  rotate_left
  ·have g5:¬ t.arrays[k].max=0:=by omega
   simp[h1,g1,g2,g3]
   intros
   refine XDCall.ret ih' ?_
   cases hf:formedT t.arrays[k].item
   ·simp[h1,g1,g2,g3,no (by rw[hs,hf]; simp)]
   ·simp[h1,g1,g2,g3]
    refine XDCall.ret (c_shape_never t.arrays[k].item) ?_
    rw[hf] at hs
    cases hn:never t.arrays[k].item<;>rw[hn] at hs
    ·simp[g5,h1,hw]
     exact⟨(),yes (by rw[hs]; simp[g5])⟩
    ·simp[g5,h1,no (by rw[hs]; simp[g5])]
  ·have g4:¬ t.arrays[k].max<t.arrays[k].min:=by omega
   simp[h1,g1,g2,g3,g4]
   intros
   refine XDCall.ret ih' ?_
   cases hf:formedT t.arrays[k].item
   ·simp[h1,g1,g2,g3,g4,no (by rw[hs,hf]; simp)]
   ·simp[h1,g1,g2,g3,g4]
    refine XDCall.ret (c_shape_never t.arrays[k].item) ?_
    rw[hf] at hs
    by_cases g5:t.arrays[k].max=0
    ·cases hn:never t.arrays[k].item<;>rw[hn] at hs
     ·simp[g5,h1,no (by rw[hs]; simp[g5])]
     ·simp[g5,h1,hw]
      exact⟨(),yes (by rw[hs]; simp[g5])⟩
    ·cases hn:never t.arrays[k].item<;>rw[hn] at hs
     ·simp[g5,h1,hw]
      exact⟨(),yes (by rw[hs]; simp[g5])⟩
     ·simp[g5,h1,no (by rw[hs]; simp[g5])]
 ·have:B=true:=by rw[← hB]; exact hj'.all h1
  simp[h1,this]
  omega
set_option maxHeartbeats 4000000 in
theorem piece_objects (t:Ty) (ih:∀ o∈t.objects,∀ f∈o.fields,Ret prog M.F_shape_Formed [.agg (cT f)] (.bool (formedT f))) (ihr:∀ o∈t.objects,Ret prog M.F_shape_Formed [.agg (cT o.rest)] (.bool (formedT o.rest))):Ret prog M.F_shape_piece_objects [.agg (cT t)] (.bool (t.objects.all formedO)):=by
 refine Ret.go hmix h_shape_piece_objects (by simp) fun hb w0 F0 hG=>?_
 simp only[bndL,bndV,List.length_map,LIM,and_true] at hb
 generalize hB:t.objects.all formedO=B
 simp
 intro v
 obtain⟨J,hJ⟩ : ∃ J:Nat→Unit→Prop,J=fun k _=>AllTo formedO t.objects k:=⟨_,rfl⟩
 refine XLoop.cnt hmix t.objects.length (fun k _=>⟨[(10,.int .i64 k),(9,.int .i64 t.objects.length),(8,.vec 12 false (t.objects.map encObj)),(1,.ptr (1,v) 9 0 0)],[((1,v),some ⟨9,[cT t],false,true⟩)]⟩) J () (by rw[hJ]; exact .zero) (by simp) fun k _ hk hj=>?_
 have hw:=wrap64 (n:=(k:Int)+1) (by omega) (by omega)
 have hj' : AllTo formedO t.objects k:=by rw[hJ] at hj; exact hj
 by_cases h1:k<t.objects.length
 ·have no:formedO t.objects[k]=false→B=false:=fun h=>hB ▸ all_not h1 h
  have yes:formedO t.objects[k]=true→J (k+1) ():=fun h=>by rw[hJ]; exact hj'.step h1 h
  have hO:formedO t.objects[k]=(decide (t.objects[k].names.length=t.objects[k].fields.length)&&decide (t.objects[k].names.length=t.objects[k].must.length)&&riseB t.objects[k].names&&formedT t.objects[k].rest&&formedTs t.objects[k].fields&&(t.objects[k].fields.zip t.objects[k].must).all (fun p=>!p.2||!never p.1)):=by
   cases t.objects[k]; rfl
  have ih':=ih _ (List.getElem_mem h1)
  have ihr':=ihr _ (List.getElem_mem h1)
  have hbf:t.objects[k].fields.length≤140737488355328:=by
   have:=bndR_map hb.2.2.2.2.2.2.2.2.2 t.objects[k] (List.getElem_mem h1)
   simp only[encObj_eq,bndL,bndV,List.length_map,LIM,and_true] at this
   omega
  generalize hoo:t.objects[k]=o at *
  by_cases g1:o.names.length=o.fields.length
  rotate_left
  ·have g1' : ¬ (o.names.length:Int)=o.fields.length:=by omega
   simp[h1,hoo,g1,g1',no (by rw[hO]; simp[g1])]
  have g1' : (o.names.length:Int)=o.fields.length:=by omega
  by_cases g2:o.names.length=o.must.length
  rotate_left
  ·have g2' : ¬ (o.names.length:Int)=o.must.length:=by omega
   simp[h1,hoo,← g1,g2,g2',no (by rw[hO]; simp[g2])]
  have g2' : (o.names.length:Int)=o.must.length:=by omega
  simp[h1,hoo,← g1,← g2]
  intro v4
  refine XCall.ret (c_shape_rise o.names) ?_
  cases hr:riseB o.names
  ·simp[no (by rw[hO,hr]; simp)]
  simp
  refine XCall.ret ihr' ?_
  cases hf:formedT o.rest
  ·simp[no (by rw[hO,hf]; simp)]
  simp
  rw[decide_eq_true g1,decide_eq_true g2,hr,hf,formedTs_all] at hO
  obtain⟨J',hJ'⟩ : ∃ J:Nat→Unit→Prop,J=fun i _=>AllTo formedT o.fields i∧AllTo (fun p:Ty × Bool=>!p.2||!never p.1) (o.fields.zip o.must) i:=⟨_,rfl⟩
  refine XLoop.cnt hmix o.fields.length (fun i _=>⟨[(45,.int .i64 i),(44,.int .i64 o.fields.length),(43,.vec 9 false (o.fields.map encTy)),(4,.ptr (4,v4) 12 0 0),(10,.int .i64 k),(9,.int .i64 t.objects.length),(8,.vec 12 false (t.objects.map encObj)),(1,.ptr (1,v) 9 0 0)],[((4,v4),some ⟨12,[cO o],false,true⟩),((1,v),some ⟨9,[cT t],false,true⟩)]⟩) J' () (by rw[hJ']; exact⟨.zero,.zero⟩) (by simp[g1]) fun i _ hi hji=>?_
  have hw2:=wrap64 (n:=(i:Int)+1) (by omega) (by omega)
  obtain⟨j1,j2⟩ : AllTo formedT o.fields i∧AllTo (fun p:Ty × Bool=>!p.2||!never p.1) (o.fields.zip o.must) i:=by rw[hJ'] at hji; exact hji
  by_cases h2:i<o.fields.length
  ·have h3:i<o.must.length:=by omega
   have h4:i<(o.fields.zip o.must).length:=by simp; omega
   have hz:(o.fields.zip o.must)[i]=(o.fields[i],o.must[i]):=by simp
   cases e2:o.must[i]
   ·simp[h2,h3,e2]
    intros
    refine XCall.ret (ih' o.fields[i] (List.getElem_mem h2)) ?_
    cases e1:formedT o.fields[i]
    ·simp[h2,h3,e2,no (by rw[hO,all_not h2 e1]; simp)]
    ·simp[h2,h3,e2,hw2]
     exact⟨(),by rw[hJ']; exact⟨j1.step h2 e1,j2.step h4 (by rw[hz]; simp[e2])⟩⟩
   ·simp[h2,h3,e2]
    intros
    refine XCall.ret (ih' o.fields[i] (List.getElem_mem h2)) ?_
    cases e1:formedT o.fields[i]
    ·simp[h2,h3,e2,no (by rw[hO,all_not h2 e1]; simp)]
    ·simp[h2,h3,e2]
     refine XCall.ret (c_shape_never o.fields[i]) ?_
     cases e3:never o.fields[i]
     ·simp[hw2,h2]
      exact⟨(),by rw[hJ']; exact⟨j1.step h2 e1,j2.step h4 (by rw[hz]; simp[e3])⟩⟩
     ·simp[no (by rw[hO,all_not h4 (by rw[hz]; simp[e2,e3])]; simp)]
  ·simp[h2,hw,h1]
   exact⟨(),yes (by rw[hO,j1.all h2,j2.all (by simp; omega)]; rfl)⟩
 ·have:B=true:=by rw[← hB]; exact hj'.all h1
  simp[h1,this]
set_option maxHeartbeats 4000000 in
theorem shape_formed_step (t:Ty) (hA:Ret prog M.F_shape_piece_arrays [.agg (cT t)] (.bool (decide (t.arrays.length≤1)&&t.arrays.all formedA))) (hO:Ret prog M.F_shape_piece_objects [.agg (cT t)] (.bool (t.objects.all formedO))):Ret prog M.F_shape_Formed [.agg (cT t)] (.bool (formedT t)):=by
 refine Ret.go hmix h_shape_Formed (by simp) fun hb w0 F0 hG=>?_
 have hs:formedT t=((!t.all||bare t)&&(decide (t.nums.length≤1)&&t.nums.all spanB)&&(riseB t.texts&&(!t.any||t.texts.isEmpty))&&(decide (t.arrays.length≤1)&&t.arrays.all formedA)&&t.objects.all formedO):=by
  cases t
  simp only[formedT,formedAs_all,formedOs_all,Ty.all_mk,Ty.nums_mk,Ty.texts_mk,Ty.any_mk,Ty.arrays_mk,Ty.objects_mk]
  rw[Bool.eq_iff_iff]
  simp only[Bool.and_eq_true]
  constructor
  ·rintro⟨⟨⟨⟨⟨⟨⟨h1,h2⟩,h3⟩,h4⟩,h5⟩,h6⟩,h7⟩,h8⟩; exact⟨⟨⟨⟨h1,h4,h5⟩,h2,h3⟩,h6,h7⟩,h8⟩
  ·rintro⟨⟨⟨⟨h1,h4,h5⟩,h2,h3⟩,h6,h7⟩,h8⟩; exact⟨⟨⟨⟨⟨⟨⟨h1,h2⟩,h3⟩,h4⟩,h5⟩,h6⟩,h7⟩,h8⟩
 generalize formedT t=B at *
 simp
 intro v1 v2
 refine XLoop.rnd hmix (.s (.s (.s (.s (.s (.s .z)))))) ?_
 simp only[XRnd_s]
 have w1:IntKind.i64.wrap 1=1:=wrap64 (by omega) (by omega)
 have w2:IntKind.i64.wrap 2=2:=wrap64 (by omega) (by omega)
 have w3:IntKind.i64.wrap 3=3:=wrap64 (by omega) (by omega)
 have w4:IntKind.i64.wrap 4=4:=wrap64 (by omega) (by omega)
 have w5:IntKind.i64.wrap 5=5:=wrap64 (by omega) (by omega)
 simp
 refine XCall.ret (c_shape_piece_every t) ?_
 cases e1:(!t.all||bare t)<;>rw[e1] at hs
 ·simp[hs]
 simp[w1,XRnd_s]
 refine XCall.ret (c_shape_piece_nums t) ?_
 cases e2:(decide (t.nums.length≤1)&&t.nums.all spanB)<;>rw[e2] at hs
 ·simp[hs]
 simp[w2,XRnd_s]
 refine XCall.ret (c_shape_piece_texts t) ?_
 cases e3:(riseB t.texts&&(!t.any||t.texts.isEmpty))<;>rw[e3] at hs
 ·simp[hs]
 simp[w3,XRnd_s]
 refine XCall.ret hA ?_
 cases e4:(decide (t.arrays.length≤1)&&t.arrays.all formedA)<;>rw[e4] at hs
 ·simp[hs]
 simp[w4,XRnd_s]
 refine XCall.ret hO ?_
 cases e5:t.objects.all formedO<;>rw[e5] at hs
 ·simp[hs]
 simp[w5,XRnd_s,hs]
theorem c_shape_Formed (t:Ty):Ret prog M.F_shape_Formed [.agg (cT t)] (.bool (formedT t)):=by
 induction hn:SizeOf.sizeOf t using Nat.strongRecOn generalizing t with
 | _ n ih =>
   subst hn
   exact shape_formed_step t (piece_arrays t fun a ha=>ih _ (sz_item ha) a.item rfl) (piece_objects t (fun o ho f hf=>ih _ (sz_field ho hf) f rfl) fun o ho=>ih _ (sz_rest ho) o.rest rfl)
end Go.Proofs.YtbdogkmdanmojaaGreatDoor.Pv
namespace Go.Proofs.YtbdogkmdanmojaaGreatDoor.Pv
open Go Go.Tidy
def idxI {α:Type} (p:α→Bool) (l:List α):Int:=if l.any p then (l.findIdx p:Nat) else -1
theorem idxI_at {α:Type} {p:α→Bool} {l:List α} {k:Nat} (hk:k<l.length) (ha:AllTo (fun x=>!p x) l k) (h:p l[k]=true):idxI p l=k:=by
 have h1:l.any p=true:=List.any_eq_true.2 ⟨_,List.getElem_mem hk,h⟩
 have h2:l.findIdx p=k:=(List.findIdx_eq hk).2 ⟨h,fun j hj=>by
  have:=ha j (by omega) hj
  rw[Bool.not_eq_true'] at this; exact this⟩
 simp[idxI,h1,h2]
theorem idxI_no {α:Type} {p:α→Bool} {l:List α} {k:Nat} (ha:AllTo (fun x=>!p x) l k) (hk:¬ k<l.length):idxI p l=-1:=by
 have:=ha.all hk
 have h1:l.any p=false:=by
  rw[List.any_eq_false]; simpa[List.all_eq_true] using this
 simp[idxI,h1]
theorem idxI_ge {α:Type} (p:α→Bool) (l:List α):decide (0≤idxI p l)=l.any p:=by
 unfold idxI
 cases l.any p<;>simp
end Go.Proofs.YtbdogkmdanmojaaGreatDoor.Pv
set_option maxRecDepth 100000
namespace Go.Proofs.YtbdogkmdanmojaaGreatDoor.Pv
open Go Go.Tidy
theorem c_slices_IndexFunc_Type (l:List Ty) (fid:Nat) (caps:List PV) (p:Ty→Bool) (hc:∀ hl,reifyL hl caps=caps) (hk:∀ hl,keysL hl caps=[]) (hok:∀ hl,okL hl caps) (hp:∀ s∈l,Ret prog fid (.agg (cT s)::caps) (.bool (p s))):Ret prog M.F_slices_IndexFunc_Type [.vec 9 false (l.map encTy),.fn fid [] caps] (.int .i64 (idxI p l)):=by
 refine Ret.go hmix h_slices_IndexFunc_Type (by simp) fun hb w0 F0 hG=>?_
 simp only[bndL,bndV,List.length_map,LIM,and_true] at hb
 generalize hB:idxI p l=B
 obtain⟨J,hJ⟩ : ∃ J:Nat→Unit→Prop,J=fun k _=>AllTo (fun u=>!p u) l k:=⟨_,rfl⟩
 simp
 refine XLoop.cnt hmix l.length (fun k _=>⟨[(8,.int .i64 k),(7,.int .i64 l.length),(1,.fn fid [] caps),(0,.vec 9 false (l.map encTy))],[]⟩) J () (by rw[hJ]; exact .zero) (by simp) fun k _ hk' hj=>?_
 have hw:=wrap64 (n:=(k:Int)+1) (by omega) (by omega)
 have hj' : AllTo (fun u=>!p u) l k:=by rw[hJ] at hj; exact hj
 by_cases g1:k<l.length
 ·have h0:=hp l[k] (List.getElem_mem g1)
  cases e1:p l[k]
  ·simp[g1,hw]
   refine XCall.ret (r:=.bool (p l[k])) (by simp[hc]; exact h0) ?_
   simp[e1,hc,hk,hok,hw]
   exact⟨g1,(),by rw[hJ]; exact hj'.step g1 (by simp[e1])⟩
  ·have:=idxI_at g1 hj' e1
   simp[g1,hw]
   refine XCall.ret (r:=.bool (p l[k])) (by simp[hc]; exact h0) ?_
   simp[e1,hc,hk,hok,hw]
   rw[← hB,this]
 ·have:B=-1:=by rw[← hB]; exact idxI_no hj' g1
  have w1:=wrap64 (n:=-1) (by omega) (by omega)
  simp[g1,this,w1]
theorem c_slices_ContainsFunc_Type (l:List Ty) (fid:Nat) (caps:List PV) (p:Ty→Bool) (hc:∀ hl,reifyL hl caps=caps) (hk:∀ hl,keysL hl caps=[]) (hok:∀ hl,okL hl caps) (hp:∀ s∈l,Ret prog fid (.agg (cT s)::caps) (.bool (p s))):Ret prog M.F_slices_ContainsFunc_Type [.vec 9 false (l.map encTy),.fn fid [] caps] (.bool (l.any p)):=by
 refine Ret.go hmix h_slices_ContainsFunc_Type (by simp) fun hb w0 F0 hG=>?_
 rw[← idxI_ge]
 simp
 refine XCall.ret (r:=.int .i64 (idxI p l)) (by simp[hc]; exact c_slices_IndexFunc_Type l fid caps p hc hk hok hp) ?_
 simp[hc,hk,hok]
theorem c_rules_right_1 (t:Ty):Ret prog M.F_rules_right_1 [.agg (cT t)] (.bool (!formedT t)):=by
 have c:=c_shape_Formed t
 refine Ret.go hmix h_rules_right_1 (by simp) fun hb w0 F0 hG=>?_
 simp
 intros
 refine XCall.ret (by first|exact c|(simpa using c)) ?_
 simp
theorem c_rules_right (l:List Ty):Ret prog M.F_rules_right [.vec 9 false (l.map encTy)] (.bool (l.all formedT)):=by
 have c:=c_slices_ContainsFunc_Type l M.F_rules_right_1 [] (fun t=>!formedT t) (fun _=>rfl) (fun _=>rfl) (fun _=>trivial) fun t _=>c_rules_right_1 t
 have e:(!(l.any fun t=>!formedT t))=l.all formedT:=by simp[List.all_eq_not_any_not]
 refine Ret.go hmix h_rules_right (by simp) fun hb w0 F0 hG=>?_
 rw[← e]
 generalize (l.any fun t=>!formedT t)=B at *
 simp
 refine XCall.ret (by first|exact c|(simpa using c)) ?_
 simp
end Go.Proofs.YtbdogkmdanmojaaGreatDoor.Pv
set_option maxRecDepth 100000
namespace Go.Proofs.YtbdogkmdanmojaaGreatDoor.Pv
open Go Go.Tidy
set_option maxHeartbeats 4000000 in
theorem c_rules_laidOut:Ret prog M.F_rules_laidOut [] (.agg (cT laidAll)):=by
 refine Ret.go hmix h_rules_laidOut (by simp) fun hb w0 F0 hG=>?_
 simp
 intros
 refine XCall.ret c_shape_Every ?_
 simp
 intros
 refine XCall.ret c_shape_Every ?_
 simp[laidAll,tEvery]
 rfl
def encPc (p:Int × Ty):List PV:=.int .i64 p.1::cT p.2
theorem encPc_eq (p:Int × Ty):encPc p=[.int .i64 p.1,.bool p.2.all,.bool p.2.null,.bool p.2.fls,.bool p.2.tru,.vec 2 false (p.2.nums.map encSpan),.bool p.2.any,.vec 1 false (p.2.texts.map encStr),.vec 11 false (p.2.arrays.map encArr),.vec 12 false (p.2.objects.map encObj)]:=rfl
def pc1 (u:Ty):List (Int × Ty):=if u.null then [(0,.mk false true false false [] false [] [] [])] else []
def pc2 (u:Ty):List (Int × Ty):=if u.fls then [(1,.mk false false true false [] false [] [] [])] else []
def pc3 (u:Ty):List (Int × Ty):=if u.tru then [(2,.mk false false false true [] false [] [] [])] else []
def pc4 (u:Ty):List (Int × Ty):=if 0<u.nums.length then [(3,.mk false false false false u.nums false [] [] [])] else []
def pc5 (u:Ty):List (Int × Ty):=if u.any||decide (0<u.texts.length) then [(4,.mk false false false false [] u.any u.texts [] [])] else []
def pc6 (u:Ty):List (Int × Ty):=if 0<u.arrays.length then [(5,.mk false false false false [] false [] u.arrays [])] else []
def pcO (o:Ob):Int × Ty:=(6,.mk false false false false [] false [] [] [o])
def laidU (t:Ty):Ty:=if t.all then laidAll else t
def pcs (t:Ty):List (Int × Ty):=pc1 (laidU t)++(pc2 (laidU t)++(pc3 (laidU t)++(pc4 (laidU t)++(pc5 (laidU t)++(pc6 (laidU t)++(laidU t).objects.map pcO)))))
theorem pc_len (u:Ty):(pc1 u).length≤1∧(pc2 u).length≤1∧(pc3 u).length≤1∧(pc4 u).length≤1∧(pc5 u).length≤1∧(pc6 u).length≤1:=by
 unfold pc1 pc2 pc3 pc4 pc5 pc6
 refine⟨?_,?_,?_,?_,?_,?_⟩<;>split<;>simp
section
variable {w0:World} {F0:Nat→Prop} {hG:GOk prog w0 F0}
abbrev sPc (v1 v:Nat) (u:Ty) (acc:List (Int × Ty)):St:=⟨[(3,.own (1003,v) 10 0 acc.length false),(1,.ptr (1,v1) 9 0 0)],[((1003,v),some ⟨10,acc.map encPc,false,false⟩),((1,v1),some ⟨9,[cT u],false,true⟩)]⟩
set_option maxHeartbeats 4000000 in
theorem pc_t1 (v1:Nat) (u:Ty) (R:List (Int × Ty)) (hl:u.objects.length≤34359738368) (v:Nat) (acc0:List (Int × Ty)) (ha:acc0.length≤6) (hR:R=acc0++u.objects.map pcO) :
 XC ⟨prog,w0,F0,86,[],0,hG⟩ M.t_rules_pieces_1 (sPc v1 v u acc0) [] (retOwn M.rs_rules_pieces 10 (R.map encPc)):=by
 simp
 obtain⟨J,hJ⟩ : ∃ J:Nat→List (Int × Ty)→Prop,J=fun k acc=>acc=acc0++(u.objects.take k).map pcO:=⟨_,rfl⟩
 refine XLoop.cntR hmix [(3,10,1003)] rfl u.objects.length (fun v k (acc:List (Int × Ty))=>⟨[(73,.int .i64 k),(72,.int .i64 u.objects.length),(71,.vec 12 false (u.objects.map encObj)),(3,.own (1003,v) 10 0 acc.length false),(1,.ptr (1,v1) 9 0 0)],[((1003,v),some ⟨10,acc.map encPc,false,false⟩),((1,v1),some ⟨9,[cT u],false,true⟩)]⟩) J acc0 (by rw[hJ]; simp) (by simp) fun v k acc _ hk hj=>?_
 have hw:=wrap64 (n:=(k:Int)+1) (by omega) (by omega)
 have hj' : acc=acc0++(u.objects.take k).map pcO:=by rw[hJ] at hj; exact hj
 have hal:acc.length=acc0.length+k:=by rw[hj']; simp; omega
 by_cases g:k<u.objects.length
 ·have hst:=map_take' pcO g
  simp[g,hw]
  exact fun _ _ _=>⟨by omega,acc++[pcO u.objects[k]],by rw[hJ]; show _=_; rw[hst,← List.append_assoc,← hj'],fun _=>by simp[encPc_eq,pcO,encObj_eq]⟩
 ·have e1:acc=R:=by rw[hj',hR,List.take_of_length_le (by omega)]
  simp[g,e1]
set_option maxHeartbeats 4000000 in
theorem pc_t2 (v1:Nat) (u:Ty) (R:List (Int × Ty)) (hl:u.objects.length≤34359738368) (v:Nat) (acc:List (Int × Ty)) (ha:acc.length≤5) (hR:R=acc++(pc6 u++u.objects.map pcO)) :
 XC ⟨prog,w0,F0,86,[],0,hG⟩ M.t_rules_pieces_2 (sPc v1 v u acc) [] (retOwn M.rs_rules_pieces 10 (R.map encPc)):=by
 have hp:=pc_len u
 rw[← List.append_assoc] at hR
 have fin:=fun v=>pc_t1 (w0:=w0) (F0:=F0) (hG:=hG) v1 u R hl v (acc++pc6 u) (by simp; omega) hR
 simp
 refine XCut.oneR hmix [(3,10,1003)] rfl (fun v=>sPc v1 v u (acc++pc6 u)) ?_ fun v' _=>by rw[XE_sq]; exact fin v'
 clear fin
 by_cases h:0<u.arrays.length
 ·have h' : (0:Int)<u.arrays.length:=by omega
  simp[h,h',pc6,encPc_eq]
  (intros; omega)
 ·have h' : ¬ (0:Int)<u.arrays.length:=by omega
  simp[h,h',pc6]
set_option maxHeartbeats 4000000 in
theorem pc_t3 (v1:Nat) (u:Ty) (R:List (Int × Ty)) (hl:u.objects.length≤34359738368) (v:Nat) (acc:List (Int × Ty)) (ha:acc.length≤4) (hR:R=acc++(pc5 u++(pc6 u++u.objects.map pcO))) :
 XC ⟨prog,w0,F0,86,[],0,hG⟩ M.t_rules_pieces_3 (sPc v1 v u acc) [] (retOwn M.rs_rules_pieces 10 (R.map encPc)):=by
 have hp:=pc_len u
 rw[← List.append_assoc] at hR
 have fin:=fun v=>pc_t2 (w0:=w0) (F0:=F0) (hG:=hG) v1 u R hl v (acc++pc5 u) (by simp; omega) hR
 simp
 refine XCut.oneR hmix [(3,10,1003)] rfl (fun v=>sPc v1 v u (acc++pc5 u)) ?_ fun v' _=>by rw[XE_sq]; exact fin v'
 clear fin
 cases e:u.any
 ·by_cases h:0<u.texts.length
  ·have h' : (0:Int)<u.texts.length:=by omega
   simp[e,h,h',pc5,encPc_eq]
   (intros; omega)
  ·have h' : ¬ (0:Int)<u.texts.length:=by omega
   simp[e,h,h',pc5]
 ·simp[e,pc5,encPc_eq]
  (intros; omega)
set_option maxHeartbeats 4000000 in
theorem pc_t4 (v1:Nat) (u:Ty) (R:List (Int × Ty)) (hl:u.objects.length≤34359738368) (v:Nat) (acc:List (Int × Ty)) (ha:acc.length≤3) (hR:R=acc++(pc4 u++(pc5 u++(pc6 u++u.objects.map pcO)))) :
 XC ⟨prog,w0,F0,86,[],0,hG⟩ M.t_rules_pieces_4 (sPc v1 v u acc) [] (retOwn M.rs_rules_pieces 10 (R.map encPc)):=by
 have hp:=pc_len u
 rw[← List.append_assoc] at hR
 have fin:=fun v=>pc_t3 (w0:=w0) (F0:=F0) (hG:=hG) v1 u R hl v (acc++pc4 u) (by simp; omega) hR
 simp
 refine XCut.oneR hmix [(3,10,1003)] rfl (fun v=>sPc v1 v u (acc++pc4 u)) ?_ fun v' _=>by rw[XE_sq]; exact fin v'
 clear fin
 by_cases h:0<u.nums.length
 ·have h' : (0:Int)<u.nums.length:=by omega
  simp[h,h',pc4,encPc_eq]
  (intros; omega)
 ·have h' : ¬ (0:Int)<u.nums.length:=by omega
  simp[h,h',pc4]
set_option maxHeartbeats 4000000 in
theorem pc_t5 (v1:Nat) (u:Ty) (R:List (Int × Ty)) (hl:u.objects.length≤34359738368) (v:Nat) (acc:List (Int × Ty)) (ha:acc.length≤2) (hR:R=acc++(pc3 u++(pc4 u++(pc5 u++(pc6 u++u.objects.map pcO))))) :
 XC ⟨prog,w0,F0,86,[],0,hG⟩ M.t_rules_pieces_5 (sPc v1 v u acc) [] (retOwn M.rs_rules_pieces 10 (R.map encPc)):=by
 have hp:=pc_len u
 rw[← List.append_assoc] at hR
 have fin:=fun v=>pc_t4 (w0:=w0) (F0:=F0) (hG:=hG) v1 u R hl v (acc++pc3 u) (by simp; omega) hR
 simp
 refine XCut.oneR hmix [(3,10,1003)] rfl (fun v=>sPc v1 v u (acc++pc3 u)) ?_ fun v' _=>by rw[XE_sq]; exact fin v'
 clear fin
 cases e:u.tru
 ·simp[e,pc3]
 ·simp[e,pc3,encPc_eq]
  (intros; omega)
set_option maxHeartbeats 4000000 in
theorem pc_t6 (v1:Nat) (u:Ty) (R:List (Int × Ty)) (hl:u.objects.length≤34359738368) (v:Nat) (acc:List (Int × Ty)) (ha:acc.length≤1) (hR:R=acc++(pc2 u++(pc3 u++(pc4 u++(pc5 u++(pc6 u++u.objects.map pcO)))))) :
 XC ⟨prog,w0,F0,86,[],0,hG⟩ M.t_rules_pieces_6 (sPc v1 v u acc) [] (retOwn M.rs_rules_pieces 10 (R.map encPc)):=by
 have hp:=pc_len u
 rw[← List.append_assoc] at hR
 have fin:=fun v=>pc_t5 (w0:=w0) (F0:=F0) (hG:=hG) v1 u R hl v (acc++pc2 u) (by simp; omega) hR
 simp
 refine XCut.oneR hmix [(3,10,1003)] rfl (fun v=>sPc v1 v u (acc++pc2 u)) ?_ fun v' _=>by rw[XE_sq]; exact fin v'
 clear fin
 cases e:u.fls
 ·simp[e,pc2]
 ·simp[e,pc2,encPc_eq]
  (intros; omega)
set_option maxHeartbeats 4000000 in
theorem pc_t7 (v1:Nat) (u:Ty) (R:List (Int × Ty)) (hl:u.objects.length≤34359738368) (hR:R=pc1 u++(pc2 u++(pc3 u++(pc4 u++(pc5 u++(pc6 u++u.objects.map pcO)))))) :
 XC ⟨prog,w0,F0,86,[],0,hG⟩ M.t_rules_pieces_7 ⟨[(1,.ptr (1,v1) 9 0 0)],[((1,v1),some ⟨9,[cT u],false,true⟩)]⟩ [] (retOwn M.rs_rules_pieces 10 (R.map encPc)):=by
 have hp:=pc_len u
 have fin:=fun v=>pc_t6 (w0:=w0) (F0:=F0) (hG:=hG) v1 u R hl v (pc1 u) (by omega) hR
 simp
 intros
 refine XCut.oneR hmix [(3,10,1003)] rfl (fun v=>sPc v1 v u (pc1 u)) ?_ fun v' _=>by rw[XE_sq]; exact fin v'
 clear fin
 cases e:u.null
 ·simp[e,pc1]
 ·simp[e,pc1,encPc_eq]
end
set_option maxHeartbeats 4000000 in
theorem c_rules_pieces (t:Ty) (hl:t.objects.length≤34359738368):RetO prog M.F_rules_pieces [.agg (cT t)] 10 ((pcs t).map encPc):=by
 have hl2:(laidU t).objects.length≤34359738368:=by unfold laidU; split<;>first|assumption|simp[laidAll]
 have hR:pcs t=pc1 (laidU t)++(pc2 (laidU t)++(pc3 (laidU t)++(pc4 (laidU t)++(pc5 (laidU t)++(pc6 (laidU t)++(laidU t).objects.map pcO)))))  := rfl
 refine RetO.go hmix h_rules_pieces (by simp) fun hb w0 F0 hG=>?_
 have fin:=fun v1=>pc_t7 (w0:=w0) (F0:=F0) (hG:=hG) v1 (laidU t) (pcs t) hl2 hR
 generalize pcs t=R at *
 simp
 intro v1
 refine XCut.oneR hmix [] rfl (fun _=>⟨[(1,.ptr (1,v1) 9 0 0)],[((1,v1),some ⟨9,[cT (laidU t)],false,true⟩)]⟩) ?_ fun v' _=>by rw[XE_sq]; exact fin v1
 clear fin
 cases e:t.all
 ·simp[e,laidU]
 ·simp[e,laidU]
  refine XCall.ret c_rules_laidOut ?_
  simp[e]
theorem pcs_never:pcs tNever=[]:=by simp[pcs,pc1,pc2,pc3,pc4,pc5,pc6,laidU,tNever]
theorem pcs_len (t:Ty) (hl:t.objects.length≤34359738368):(pcs t).length≤34359738374:=by
 have hl2:(laidU t).objects.length≤34359738368:=by unfold laidU; split<;>first|assumption|simp[laidAll]
 have hp:=pc_len (laidU t)
 unfold pcs
 simp only[List.length_append,List.length_map]
 omega
end Go.Proofs.YtbdogkmdanmojaaGreatDoor.Pv
set_option maxRecDepth 100000
namespace Go.Proofs.YtbdogkmdanmojaaGreatDoor.Pv
open Go Go.RowKit Go.Maps
def primT:List (ByteArray × Nat):=[(⟨#[108,101,110,103,116,104,47,48]⟩,M.F_prim_input_length),
 (⟨#[117,116,102,56,98,121,116,101,108,101,110,103,116,104,47,48]⟩,M.F_prim_input_bytes),
 (⟨#[110,111,116,47,48]⟩,M.F_prim_input_not),
 (⟨#[107,101,121,115,47,48]⟩,M.F_prim_input_keys),
 (⟨#[104,97,115,47,49]⟩,M.F_prim_input_has),
 (⟨#[99,111,110,116,97,105,110,115,47,49]⟩,M.F_prim_input_contains),
 (⟨#[116,121,112,101,47,48]⟩,M.F_prim_input_kind),
 (⟨#[116,111,115,116,114,105,110,103,47,48]⟩,M.F_prim_input_str),
 (⟨#[116,111,110,117,109,98,101,114,47,48]⟩,M.F_prim_input_number),
 (⟨#[116,111,106,115,111,110,47,48]⟩,M.F_prim_input_json),
 (⟨#[102,114,111,109,106,115,111,110,47,48]⟩,M.F_prim_input_read),
 (⟨#[97,115,99,105,105,95,100,111,119,110,99,97,115,101,47,48]⟩,M.F_prim_input_lower),
 (⟨#[97,115,99,105,105,95,117,112,99,97,115,101,47,48]⟩,M.F_prim_input_upper),
 (⟨#[101,120,112,108,111,100,101,47,48]⟩,M.F_prim_input_explode),
 (⟨#[105,109,112,108,111,100,101,47,48]⟩,M.F_prim_input_implode),
 (⟨#[115,116,97,114,116,115,119,105,116,104,47,49]⟩,M.F_prim_input_starts),
 (⟨#[101,110,100,115,119,105,116,104,47,49]⟩,M.F_prim_input_ends),
 (⟨#[108,116,114,105,109,115,116,114,47,49]⟩,M.F_prim_input_ltrim),
 (⟨#[114,116,114,105,109,115,116,114,47,49]⟩,M.F_prim_input_rtrim),
 (⟨#[115,112,108,105,116,47,49]⟩,M.F_prim_input_split),
 (⟨#[106,111,105,110,47,49]⟩,M.F_prim_input_join),
 (⟨#[105,110,100,105,99,101,115,47,49]⟩,M.F_prim_input_indices),
 (⟨#[114,101,118,101,114,115,101,47,48]⟩,M.F_prim_input_reverse),
 (⟨#[115,111,114,116,47,48]⟩,M.F_prim_input_sort),
 (⟨#[95,115,111,114,116,95,98,121,47,49]⟩,M.F_prim_input_sortBy),
 (⟨#[95,103,114,111,117,112,95,98,121,47,49]⟩,M.F_prim_input_groupBy),
 (⟨#[95,117,110,105,113,117,101,95,98,121,47,49]⟩,M.F_prim_input_uniqueBy),
 (⟨#[95,109,105,110,95,98,121,47,49]⟩,M.F_prim_input_minBy),
 (⟨#[95,109,97,120,95,98,121,47,49]⟩,M.F_prim_input_maxBy),
 (⟨#[109,105,110,47,48]⟩,M.F_prim_input_least),
 (⟨#[109,97,120,47,48]⟩,M.F_prim_input_greatest),
 (⟨#[117,110,105,113,117,101,47,48]⟩,M.F_prim_input_unique),
 (⟨#[97,100,100,47,48]⟩,M.F_prim_input_add),
 (⟨#[102,108,97,116,116,101,110,47,48]⟩,M.F_prim_input_flatten),
 (⟨#[116,114,97,110,115,112,111,115,101,47,48]⟩,M.F_prim_input_transpose),
 (⟨#[103,101,116,112,97,116,104,47,49]⟩,M.F_prim_input_getpath),
 (⟨#[115,101,116,112,97,116,104,47,50]⟩,M.F_prim_input_setpath),
 (⟨#[100,101,108,112,97,116,104,115,47,49]⟩,M.F_prim_input_delpaths),
 (⟨#[97,98,115,47,48]⟩,M.F_prim_input_abs),
 (⟨#[116,111,97,114,114,97,121,47,48]⟩,M.F_prim_input_toarray)]
def RF (v:Value):Option (DataW Unit × List MemPlace):=match v with
 | .func (.func f) a b=>if a.isEmpty&&b.isEmpty then some (.lit (.int .i64 f),[]) else none
 | .nilFunc=>some (.nil,[])
 | _=>none
theorem RF_func (f:Nat):RF (.func (.func f) #[] #[])=some (.lit (.int .i64 f),[]):=rfl
theorem RF_inv {v:Value} {f:Int} {ps:List MemPlace} (h:RF v=some (.lit (.int .i64 f),ps)):∃ n:Nat,v=.func (.func n) #[] #[]∧(n:Int)=f:=by
 unfold RF at h
 split at h
 ·rename_i n a b
  split at h
  ·rename_i hc
   simp only[Bool.and_eq_true,Array.isEmpty_iff] at hc
   obtain⟨rfl,rfl⟩:=hc
   simp only[Option.some.injEq,Prod.mk.injEq,DataW.lit.injEq,Lit.int.injEq,true_and] at h
   exact⟨n,rfl,h.1⟩
  ·cases h
 ·cases h
 ·cases h
def insOk (t:TypeId) (o:Oper) (p:ByteArray × Nat):Bool:=o.guard.isNone&&o.dst.isNone&&(match o.op with
 | .insert t' (.tmp 1) (.const (.string s)) (.func f)=>t' == t&&s.data == p.1.data&&f == p.2
 | _=>false)
def insAll (t:TypeId):List Oper→List (ByteArray × Nat)→Bool
 | [],[]=>true
 | o::l,p::ps=>insOk t o p&&insAll t l ps
 | _,_=>false
def putM (D:DataW Unit) (ps:List (ByteArray × Nat)):DataW Unit:=ps.foldl (fun D p=>D.put (.string p.1.data.toList) (.lit (.int .i64 p.2))) D
theorem ins_run {P:Program} {t kt et:TypeId} (ht:P.underlying t=some (.map kt et)) (hk:P.underlying kt=some .string) {ops:Array Oper} {Q:Exit→Act→World→Prop} {rest:List Oper} {a:Act} {b:Nat} (hm:a.eval (.tmp 1)=.map (some b)) :
 ∀ (l:List Oper) (ps:List (ByteArray × Nat)) (w:World) (n:Nat) (D:DataW Unit),insAll t l ps=true→w.ownsMap P kt RF b n D→n+ps.length<maxLen→(∀ p∈ps,p.1.size≤LIM) →
   (∀ w',w'.ownsMap P kt RF b (n+ps.length) (putM D ps)→w.grownBy w' (some b)→wpList P ops Q rest a w')→wpList P ops Q (l++rest) a w
 | [],[],w,n,D,_,hown,_,_,hK=>hK w hown (World.grownBy.refl w _)
 | [],_::_,_,_,_,h,_,_,_,_=>by cases h
 | _::_,[],_,_,_,h,_,_,_,_=>by cases h
 | o::l,p::ps,w,n,D,h,hown,hn,hs,hK=>by
   simp only[insAll,Bool.and_eq_true] at h
   obtain⟨h1,h2⟩:=h
   simp only[insOk,Bool.and_eq_true,Option.isNone_iff_eq_none] at h1
   obtain⟨⟨hg,hd⟩,h3⟩:=h1
   split at h3
   ·rename_i t' s f hop
    simp only[Bool.and_eq_true,beq_iff_eq] at h3
    obtain⟨⟨rfl,hs'⟩,rfl⟩:=h3
    have hsp:s=p.1:=by cases s; cases hp:p.1; rw[hp] at hs'; simp at hs'; rw[hs']
    subst hsp
    have hkey:keyOf P kt (.string p.1)=some (.string p.1.data.toList):=WideMaps.keyOf_string_mk hk (by have:=hs p (List.mem_cons_self ..); unfold LIM at this; unfold maxLen; omega)
    obtain⟨w1,hrun,hown1,hgr⟩:=hown.update (string_keyed hk) ht (by simp only[List.length_cons] at hn; omega) hkey (RF_func p.2)
    rw[List.cons_append]
    refine wpList_plain hg fun K hK'=>?_
    unfold Oper.wp
    have e1:a.eval (.const (.string p.1))=.string p.1:=rfl
    have e2:a.eval (.func p.2)=.func (.func p.2) #[] #[]:=rfl
    simp[execOp,hop,hm,e1,e2,hrun,Result.andThen]
    refine hK' _ _ ?_
    rw[hd]
    refine ins_run ht hk hm l ps w1 (n+1) _ h2 hown1 (by simp only[List.length_cons] at hn; omega) (fun q hq=>hs q (List.mem_cons_of_mem _ hq)) fun w' ho hg'=>hK w' ?_ (hgr.trans hg')
    rw[List.length_cons,show n+(ps.length+1)=n+1+ps.length by omega]
    exact ho
   ·cases h3
def mvOk (o:Oper):Bool:=o.guard.isNone&&o.dst == some 2&&(match o.op with
 | .move (.tmp 1)=>true
 | _=>false)
def lastOk (o:Oper):Bool:=o.guard.isNone&&o.dst == some 0&&(match o.op with
 | .assign (.tmp 2)=>true
 | _=>false)
def insThen (t:TypeId):List Oper→List (ByteArray × Nat)→Bool
 | [o1,o2],[]=>mvOk o1&&lastOk o2
 | o::l,p::ps=>insOk t o p&&insThen t l ps
 | _,_=>false
theorem insThen_split {t:TypeId}:∀ {l:List Oper} {ps:List (ByteArray × Nat)},insThen t l ps=true→∃ l1 o1 o2,l=l1++[o1,o2]∧insAll t l1 ps=true∧mvOk o1=true∧lastOk o2=true
 | [],[],h=>by cases h
 | [_],[],h=>by cases h
 | [o1,o2],[],h=>by
   simp only[insThen,Bool.and_eq_true] at h
   exact⟨[],o1,o2,rfl,rfl,h.1,h.2⟩
 | _::_::_::_,[],h=>by cases h
 | [],_::_,h=>by cases h
 | o::l,p::ps,h=>by
   simp only[insThen,Bool.and_eq_true] at h
   obtain⟨l1,o1,o2,rfl,h1,h2⟩:=insThen_split h.2
   exact⟨o::l1,o1,o2,rfl,by simp[insAll,h.1,h1],h2⟩
def tabChk (t:TypeId) (ps:List (ByteArray × Nat)):Option Code→Bool
 | some (.seq (.region _ r0 false) (.seq (.region _ r1 false) .ret))=>(match r0.toList with
   | [o]=>o.guard.isNone&&(match o.op with
     | .assign (.const (.map none))=>true
     | _=>false)
   | _=>false)&&(match r1.toList with
   | o::l=>o.guard.isNone&&o.dst == some 1&&(match o.op with
     | .makeMap t' none=>t' == t
     | _=>false)&&insThen t l ps
   | _=>false)
 | _=>false
theorem table_calls {P:Program} {f:FuncId} {fn:Func} {t kt et:TypeId} (hf:P.funcs[f]? = some fn) (hr:fn.results=#[.tmp 0]) (hn:fn.ntmps=3) (ht:P.underlying t=some (.map kt et)) (hk:P.underlying kt=some .string) {ps:List (ByteArray × Nat)} (hc:tabChk t ps fn.body=true) (hl:ps.length<1000) (hs:∀ p∈ps,p.1.size≤LIM) (w:World) :
 Calls P f #[] w fun e w'=>e=.returned (.map (some w.heap.size))∧w'.ownsMap P kt RF w.heap.size ps.length (putM (.map []) ps)∧Below w.heap.size w w':=by
 cases hb:fn.body with
 | none=>rw[hb] at hc; cases hc
 | some c =>
   rw[hb] at hc
   unfold tabChk at hc
   split at hc
   ·rename_i i0 r0 i1 r1 heq
    cases heq
    simp only[Bool.and_eq_true] at hc
    obtain⟨h0,h1⟩:=hc
    split at h0
    ·rename_i o0 e0
     simp only[Bool.and_eq_true,Option.isNone_iff_eq_none] at h0
     obtain⟨g0,h0⟩:=h0
     split at h0
     ·rename_i op0
      split at h1
      ·rename_i omk l e1
       simp only[Bool.and_eq_true,Option.isNone_iff_eq_none,beq_iff_eq] at h1
       obtain⟨⟨⟨g1,d1⟩,h1⟩,h2⟩:=h1
       split at h1
       ·rename_i t' op1
        simp only[beq_iff_eq] at h1
        subst h1
        obtain⟨l1,om,ol,rfl,h3,h5,h4⟩:=insThen_split h2
        simp only[lastOk,Bool.and_eq_true,Option.isNone_iff_eq_none,beq_iff_eq] at h4
        obtain⟨⟨g4,d4⟩,h4⟩:=h4
        simp only[mvOk,Bool.and_eq_true,Option.isNone_iff_eq_none,beq_iff_eq] at h5
        obtain⟨⟨g5,d5⟩,h5⟩:=h5
        have op5:om.op=.move (.tmp 1):=by
         split at h5
         ·assumption
         ·cases h5
        split at h4
        ·rename_i op4
         refine calls_of_wp hf hb (wp_seq (wp_region_list ?_))
         rw[e0]
         refine wpList_plain g0 fun K hK=>?_
         unfold Oper.wp
         simp[execOp,op0,Act.eval,Result.andThen]
         refine hK _ _ (wpList_nil ?_)
         refine wp_seq (wp_region_list ?_)
         rw[e1]
         refine wpList_plain g1 fun K hK=>?_
         unfold Oper.wp
         simp[execOp,op1,run_makeMap,Result.andThen]
         refine hK _ _ ?_
         rw[d1]
         obtain⟨A,hA⟩ : ∃ A:Act,A=Act.put (Act.put { tmps:=Array.replicate fn.ntmps undef,defers:=[] } o0.dst (Value.map none)) (some 1) (Value.map (some w.heap.size)):=⟨_,rfl⟩
         have hsz:A.tmps.size=3:=by rw[hA]; cases o0.dst<;>simp[Act.put,hn]
         have hev:A.eval (.tmp 1)=.map (some w.heap.size):=by
          rw[hA]; cases o0.dst<;>simp[Act.put,Act.eval,hn]
         have hdf:A.defers=[]:=by rw[hA]; cases o0.dst<;>rfl
         first|rw[← hA]|skip
         refine ins_run ht hk hev l1 ps _ 0 (.map []) h3 (World.ownsMap_made w P kt RF) (by unfold maxLen; omega) hs fun w' hown hgr=>?_
         refine wpList_plain g5 fun K hK=>?_
         unfold Oper.wp
         simp[execOp,op5,hev,Result.andThen]
         show K (A.put om.dst (.map (some w.heap.size))) w'
         rw[d5]
         refine hK _ _ ?_
         have hev2:(A.put (some 2) (.map (some w.heap.size))).eval (.tmp 2)=.map (some w.heap.size):=by simp[Act.put,Act.eval,hsz]
         refine wpList_plain g4 fun K hK=>?_
         unfold Oper.wp
         simp[execOp,op4,hev2,Result.andThen]
         show K ((A.put (some 2) (.map (some w.heap.size))).put ol.dst (.map (some w.heap.size))) w'
         rw[d4]
         refine hK _ _ (wpList_nil ?_)
         refine wp_ret (bodyPost_ret (results_tmp hr _ _ _) ?_ ?_)
         ·exact hdf
         ·refine⟨?_,by simpa using hown,?_⟩
          ·simp[Act.put,hsz]
          ·refine ((Below.refl _ w).alloc (Nat.le_refl _) _).grown hgr (by simp) (fun j hj=>by cases hj; exact Nat.le_refl _)
        ·cases h4
       ·cases h1
      ·cases h1
     ·cases h0
    ·cases h0
   ·cases hc
def isEnt (y:Lit × DataW Unit) (p:ByteArray × Nat):Bool:=match y with
 | (.string s,.lit (.int .i64 f))=>s == p.1.data.toList&&f == (p.2:Int)
 | _=>false
def entsOk (E:List (Lit × DataW Unit)) (ps:List (ByteArray × Nat)):Bool:=E.all (fun y=>ps.any fun p=>isEnt y p)&&ps.all (fun p=>E.any fun y=>isEnt y p)&&ps.all (fun p=>ps.all fun q=>p.1.data != q.1.data||p.2 == q.2)&&ps.all (fun p=>decide (p.1.size≤LIM))
theorem ba_ext {a b:ByteArray} (h:a.data.toList=b.data.toList):a=b:=by
 cases a; cases b; simp at h; rw[h]
open WideElems in
theorem mapF_of {P:Program} {kt:TypeId} (hk:P.underlying kt=some .string) {w:World} {b n:Nat} {E:List (Lit × DataW Unit)} {ps:List (ByteArray × Nat)} (hown:w.ownsMap P kt RF b n (.map E)) (hc:entsOk E ps=true):MapF w b ps:=by
 simp only[entsOk,Bool.and_eq_true,List.all_eq_true,List.any_eq_true,decide_eq_true_eq] at hc
 obtain⟨⟨⟨c1,c2⟩,c3⟩,c4⟩:=hc
 obtain⟨arr,clock,hb,F,_,hD⟩:=hown
 have hE:E=(arr.toList.map (rg P kt RF)).foldr DataW.insert []:=DataW.map.inj hD
 have hmem:∀ y,y∈E↔y∈arr.toList.map (rg P kt RF):=fun y=>by rw[hE]; exact (WideShapes.sorted_perm _).mem_iff
 refine⟨arr,clock,hb,fun e he=>?_,fun p hp=>?_,fun p hp q hq hpq=>?_⟩
 ·obtain⟨y,hy⟩:=F.reads e he
  have hyE:y∈E:=(hmem y).2 (List.mem_map.2 ⟨e,he,rg_of hy⟩)
  obtain⟨p,hp,hm⟩:=c1 y hyE
  have k1:=rd_key hy
  obtain⟨z,hz,hd⟩:=rd_val hy
  unfold isEnt at hm
  split at hm
  ·rename_i s f
   simp only[Bool.and_eq_true,beq_iff_eq] at hm
   obtain⟨m1,m2⟩:=hm
   obtain⟨s',hs',hl,_⟩:=WideMaps.string_of_keyOf hk k1
   simp only[Lit.string.injEq] at hl
   have hsp:s'=p.1:=ba_ext (by rw[← hl,m1])
   obtain⟨z1,z2⟩:=z
   simp only at hd
   subst hd
   obtain⟨g,hg,hgf⟩:=RF_inv hz
   refine⟨p,hp,by rw[hs',hsp],?_,c4 p hp⟩
   rw[hg,show g=p.2 by omega]
  ·cases hm
 ·obtain⟨y,hy,hm⟩:=c2 p hp
  obtain⟨e,he,hr⟩:=List.mem_map.1 ((hmem y).1 hy)
  obtain⟨y',hy'⟩:=F.reads e he
  have:y'=y:=by rw[← hr,rg_of hy']
  subst this
  have k1:=rd_key hy'
  unfold isEnt at hm
  split at hm
  ·rename_i s f
   simp only[Bool.and_eq_true,beq_iff_eq] at hm
   obtain⟨s',hs',hl,_⟩:=WideMaps.string_of_keyOf hk k1
   simp only[Lit.string.injEq] at hl
   exact⟨e,he,by rw[hs',ba_ext (a:=s') (b:=p.1) (by rw[← hl,hm.1])]⟩
  ·cases hm
 ·have:=c3 p hp q hq
  simp only[Bool.or_eq_true,bne_iff_ne,ne_eq,beq_iff_eq] at this
  rcases this with h|h
  ·exact absurd (by rw[hpq]) h
  ·exact Prod.ext hpq h
def entsD (D:DataW Unit) (ps:List (ByteArray × Nat)):Bool:=match D with
 | .map E=>entsOk E ps
 | _=>false
theorem prim_ents:entsD (putM (.map []) primT) primT=true:=by kernel_rfl
theorem table_ret {P:Program} {f:FuncId} {fn:Func} {t kt et:TypeId} (hca:callable P f=true) (hf:P.funcs[f]? = some fn) (hr:fn.results=#[.tmp 0]) (hn:fn.ntmps=3) (ht:P.underlying t=some (.map kt et)) (hk:P.underlying kt=some .string) {ps:List (ByteArray × Nat)} (hc:tabChk t ps fn.body=true) (hl:ps.length<1000) (he:entsD (putM (.map []) ps) ps=true):Ret P f [] (.mapf ps):=by
 unfold entsD at he
 split at he
 ·rename_i E hE
  have hsz:∀ p∈ps,p.1.size≤LIM:=by
   simp only[entsOk,Bool.and_eq_true,List.all_eq_true,decide_eq_true_eq] at he
   exact he.2
  refine⟨hca,fun w F vs hG hF hr'=>?_⟩
  have hvs:vs=[]:=hr'
  subst hvs
  refine Calls.mono (table_calls hf hr hn ht hk hc hl hsz w) ?_
  rintro e w' ⟨rfl,hown,hbel⟩
  rw[hE] at hown
  have hlt:=hown.lt
  refine⟨_,fun b=>F b∨b=w.heap.size,rfl,Bel.of hbel,fun _ h=>.inl h,fun b hb=>?_,⟨_,rfl,.inr rfl,mapF_of hk hown he⟩⟩
  rcases hb with hb|rfl
  ·have:=hF b hb
   exact⟨by omega,.inl hb⟩
  ·exact⟨hlt,.inr (Nat.le_refl _)⟩
 ·cases he
theorem c_prim_table:Ret prog M.F_prim_table [] (.mapf primT) :=
 table_ret (by kernel_rfl) Tryz.func67 rfl rfl Tryz.underlying103 Tryz.underlying9 (by kernel_rfl) (by decide) prim_ents
end Go.Proofs.YtbdogkmdanmojaaGreatDoor.Pv
set_option maxRecDepth 100000
namespace Go.Proofs.YtbdogkmdanmojaaGreatDoor.Pv
open Go Go.RowKit
def itoaS (n:Int):ByteArray:=⟨(Lib.itoa n).toArray⟩
def keyS (s:ByteArray) (n:Int):ByteArray:=s++⟨#[47]⟩++itoaS n
theorem pow_there:(prog.globalNamed "internal/strconv.uint64pow10").isSome=true:=by kernel_rfl
theorem c_strconv_Itoa (n:Int):Ret prog M.F_strconv_Itoa [.int .i64 n] (.str (itoaS n)):=by
 refine⟨by kernel_rfl,fun w F vs hG hF hr=>?_⟩
 obtain⟨v,us,rfl,hv,hus⟩:=hr
 obtain rfl:us=[]:=hus
 obtain⟨rfl,h0,h1⟩:=hv
 simp[IntKind.min,IntKind.max,IntKind.signed,IntKind.bits] at h0 h1
 obtain⟨g,hg⟩:=Option.isSome_iff_exists.1 pow_there
 obtain⟨_,_,ht⟩:=hG.2.1 _ (List.mem_cons_self ..) g hg
 have h:Calls prog M.F_strconv_Itoa #[.int .i64 n] w _:=Any.strconv_Itoa Tryz.laysItoa n (by omega) (by omega) w ht
 refine Calls.mono h ?_
 rintro e w' ⟨rfl,k,os,rfl⟩
 have hb:=Lib.below_grow w.heap.size w (Nat.le_refl _) k os
 refine⟨_,F,rfl,Bel.of hb,fun _ h=>h,fun b hb'=>⟨Nat.lt_of_lt_of_le (hF b hb') hb.size,.inl hb'⟩,⟨rfl,?_⟩⟩
 have:=Lib.itoa_length_le n (by omega) (by omega)
 show (Lib.itoa n).toArray.size≤LIM
 simp[LIM]; omega
theorem itoaS_size {n:Int} (h0 : -9223372036854775808≤n) (h1:n≤9223372036854775807):(itoaS n).size≤21:=by
 have:=Lib.itoa_length_le n h0 h1
 show (Lib.itoa n).toArray.size≤21
 simpa using this
theorem c_prim_key (s:ByteArray) (n:Int) (hs:s.size≤140737488355000):Ret prog M.F_prim_key [.str s,.int .i64 n] (.str (keyS s n)):=by
 have c1:=c_strconv_Itoa n
 refine Ret.go hmix h_prim_key (by simp) fun hb w0 F0 hG=>?_
 simp[bndL,bndV,IntKind.min,IntKind.max,IntKind.signed,IntKind.bits] at hb
 have hi:=itoaS_size (n:=n) (by omega) (by omega)
 unfold keyS
 simp
 refine⟨by show s.size+1≤LIM; simp[LIM]; omega,?_⟩
 refine XCall.ret (by first|exact c1|(simpa using c1)) ?_
 simp
 have e1:(s++{ data:=#[47] }:ByteArray).size=s.size+1:=by simp; rfl
 simp[LIM]
 have e2:({ data:=#[47] }:ByteArray).size=1:=rfl
 rw[e2]; omega
def hasF (s:ByteArray) (es:List (ByteArray × Nat)):Bool:=es.any fun p=>strEq p.1 s
theorem lookF_has (s:ByteArray):∀ es:List (ByteArray × Nat),∃ x,lookF s es=.tup [x,.bool (hasF s es)]
 | []=>⟨_,rfl⟩
 | (k,f)::es=>by
   have e1:hasF s ((k,f)::es)=(strEq k s||hasF s es):=rfl
   have e2:lookF s ((k,f)::es)=if strEq k s=true then .tup [.fn f [] [],.bool true] else lookF s es:=rfl
   rw[e1,e2]
   by_cases h:strEq k s=true
   ·exact⟨.fn f [] [],by rw[if_pos h,h]; rfl⟩
   ·obtain⟨x,hx⟩:=lookF_has s es
    refine⟨x,?_⟩
    rw[if_neg h,hx]
    rw[Bool.not_eq_true] at h
    rw[h]; rfl
theorem c_prim_Is (s:ByteArray) (n:Int) (hs:s.size≤140737488355000):Ret prog M.F_prim_Is [.str s,.int .i64 n] (.bool (hasF (keyS s n) primT)):=by
 have c1:=c_prim_table
 have c2:=c_prim_key s n hs
 refine Ret.go hmix h_prim_Is (by simp) fun hb w0 F0 hG=>?_
 obtain⟨x,hx⟩:=lookF_has (keyS s n) primT
 generalize keyS s n=k at *
 generalize primT=T at *
 generalize hasF k T=B at *
 simp
 refine XCall.ret (by first|exact c1|(simpa using c1)) ?_
 simp
 refine XCall.ret (by first|exact c2|(simpa using c2)) ?_
 simp[hx]
end Go.Proofs.YtbdogkmdanmojaaGreatDoor.Pv
set_option maxRecDepth 100000
namespace Go.Proofs.YtbdogkmdanmojaaGreatDoor.Pv
open Go Go.Tidy
abbrev nvC:List PV:=[.bool false,.bool false,.bool false,.bool false,.vec 2 false [],.bool false,.vec 1 false [],.vec 11 false [],.vec 12 false []]
def AllNil:Prop:=Ret prog M.F_rules_all [.vec 18 false []] (.tup [.agg nvC,.agg nvC,.int .i64 0])
theorem formed_nv:formedT tNever=true:=by
 simp[tNever,formedT,formedAs,formedOs,riseB,never,bare,Ty.all,Ty.null,Ty.fls,Ty.tru,Ty.nums,Ty.any,Ty.texts,Ty.arrays,Ty.objects]
theorem c_right1 (a:Ty):Ret prog M.F_rules_right [.vec 9 false [cT a]] (.bool (formedT a)):=by
 have c:=c_rules_right [a]
 simp at c
 simpa[encTy_eq] using c
theorem c_right2 (a b:Ty):Ret prog M.F_rules_right [.vec 9 false [cT a,cT b]] (.bool (formedT a&&formedT b)):=by
 have c:=c_rules_right [a,b]
 simp at c
 simpa[encTy_eq] using c
theorem c_right3 (a b d:Ty):Ret prog M.F_rules_right [.vec 9 false [cT a,cT b,cT d]] (.bool (formedT a&&(formedT b&&formedT d))):=by
 have c:=c_rules_right [a,b,d]
 simp at c
 simpa[encTy_eq] using c
theorem c_pieces0:RetO prog M.F_rules_pieces [.agg nvC] 10 []:=by
 have c:=c_rules_pieces tNever (by simp[tNever,Ty.objects])
 rw[pcs_never] at c
 exact c
set_option maxHeartbeats 4000000 in
theorem c_rules_one0 (hA:AllNil) (fid:Nat):Ret prog M.F_rules_one [.agg nvC,.fn fid [] []] (.tup [.agg nvC,.agg nvC,.int .i64 0]):=by
 have c1:Ret prog M.F_rules_right [.vec 9 false [nvC]] (.bool true):=by
  have c:=c_right1 tNever
  rw[formed_nv] at c
  exact c
 have c2:=c_pieces0
 refine Ret.go hmix h_rules_one (by simp) fun hb w0 F0 hG=>?_
 simp
 intros
 refine XCall.ret (by first|exact c1|(simpa using c1)) ?_
 simp
 intros
 refine XCall.retO (by first|exact c2|(simpa using c2)) ?_
 simp
 intros
 refine XLoop.rnd hmix (.s .z) ?_
 simp[XRnd_s]
 refine XCall.ret (by first|exact hA|(simpa[AllNil] using hA)) ?_
 simp[XRnd_s]
theorem c_rules_Neg0 (hA:AllNil):Ret prog M.F_rules_Neg [.agg nvC] (.tup [.agg nvC,.agg nvC,.int .i64 0]):=by
 have c:=c_rules_one0 hA M.F_rules_Neg_1
 refine Ret.go hmix h_rules_Neg (by simp) fun hb w0 F0 hG=>?_
 simp
 intros
 refine XCall.ret (by first|exact c|(simpa using c)) ?_
 simp
theorem c_rules_Each0 (hA:AllNil):Ret prog M.F_rules_Each [.agg nvC] (.tup [.agg nvC,.agg nvC,.int .i64 0]):=by
 have c:=c_rules_one0 hA M.F_rules_Each_1
 refine Ret.go hmix h_rules_Each (by simp) fun hb w0 F0 hG=>?_
 simp
 intros
 refine XCall.ret (by first|exact c|(simpa using c)) ?_
 simp
set_option maxHeartbeats 4000000 in
theorem c_rules_Slice0 (hA:AllNil) (b d:Ty):Ret prog M.F_rules_Slice [.agg nvC,.agg (cT b),.agg (cT d)] (.tup [.agg nvC,.agg nvC,.int .i64 (if formedT b&&formedT d then 0 else 1)]):=by
 have c1:Ret prog M.F_rules_right [.vec 9 false [nvC,cT b,cT d]] (.bool (formedT b&&formedT d)):=by
  have c:=c_right3 tNever b d
  rw[formed_nv] at c
  exact c
 have c2:=c_pieces0
 generalize (formedT b&&formedT d)=q at *
 refine Ret.go hmix h_rules_Slice (by simp) fun hb w0 F0 hG=>?_
 simp
 intros
 refine XCall.ret (by first|exact c1|(simpa using c1)) ?_
 cases q
 ·simp
 simp
 intros
 refine XCall.retO (by first|exact c2|(simpa using c2)) ?_
 simp
 intros
 refine XLoop.rnd hmix (.s .z) ?_
 simp[XRnd_s]
 refine XCall.ret (by first|exact hA|(simpa[AllNil] using hA)) ?_
 simp[XRnd_s]
end Go.Proofs.YtbdogkmdanmojaaGreatDoor.Pv
set_option maxRecDepth 100000
namespace Go.Proofs.YtbdogkmdanmojaaGreatDoor.Pv
open Go Go.Tidy
def opsC:List PV:=[.fn M.F_rules_pair_add [] [],.fn M.F_rules_pair_sub [] [],.fn M.F_rules_pair_mul [] [],.fn M.F_rules_pair_div [] [],.fn M.F_rules_pair_mod [] [],.fn M.F_rules_pair_equal [] [],.fn M.F_rules_pair_equal [] [],.fn M.F_rules_pair_compared [] [],.fn M.F_rules_pair_compared [] [],.fn M.F_rules_pair_compared [] [],.fn M.F_rules_pair_compared [] []]
theorem c_rules_operations:Ret prog M.F_rules_operations [] (.agg opsC):=by
 refine Ret.go hmix h_rules_operations (by simp) fun hb w0 F0 hG=>?_
 simp[opsC]
def arE (op:Int) (q:Bool):Int:=if op<14 then 2 else if 24<op then 2 else if q then 0 else 1
set_option maxHeartbeats 8000000 in
theorem c_rules_Arith0 (hA:AllNil) (op:Int) (a b:Ty) (h:a=tNever∨b=tNever) (la:a.objects.length≤34359738368) (lb:b.objects.length≤34359738368) :
 Ret prog M.F_rules_Arith [.int .i64 op,.agg (cT a),.agg (cT b)] (.tup [.agg nvC,.agg nvC,.int .i64 (arE op (formedT a&&formedT b))]):=by
 have c1:=c_right2 a b
 have c2:=c_rules_operations
 have c3:=c_rules_pieces a la
 have c4:=c_rules_pieces b lb
 have z3:=pcs_len a la
 have hp:pcs a=[]∨pcs b=[]:=by rcases h with rfl|rfl<;>simp[pcs_never]
 generalize pcs a=pa at *
 generalize pcs b=pb at *
 generalize (formedT a&&formedT b)=q at *
 refine Ret.go hmix h_rules_Arith (by simp) fun hb w0 F0 hG=>?_
 by_cases g1:op<14
 ·simp[g1,arE]
 by_cases g2:24<op
 ·simp[g1,g2,arE]
 have e:arE op q=if q then 0 else 1:=by simp[arE,g1,g2]
 rw[e]
 clear e
 simp[g1,g2]
 intros
 refine XCall.ret (by first|exact c1|(simpa using c1)) ?_
 cases q
 ·simp
 simp
 intros
 refine XCall.ret (by first|exact c2|(simpa using c2)) ?_
 simp[opsC]
 intros
 refine XCall.retO (by first|exact c3|(simpa using c3)) ?_
 rcases hp with rfl|rfl
 ·simp
  intros
  refine XLoop.rnd hmix (.s .z) ?_
  simp[XRnd_s]
  refine XCall.ret (by first|exact hA|(simpa[AllNil] using hA)) ?_
  simp[XRnd_s]
 ·simp
  intro vp
  rename_i v4 v5 v6 v7 v27 vl v9
  obtain⟨J,hJ⟩ : ∃ J:Nat→Unit→Prop,J=fun _ _=>True:=⟨_,rfl⟩
  refine XLoop.cnt hmix pa.length (fun k (_:Unit)=>⟨[(37,.int .i64 k),(36,.int .i64 pa.length),(35,.own (35,vp) 10 0 pa.length false),(10,.own (33,vl) 18 0 0 true),(8,.int .i64 0),(7,.ptr (7,v7) 9 0 0),(6,.ptr (6,v6) 9 0 0),(5,.ptr (5,v5) 9 0 0)],[((35,vp),some ⟨10,pa.map encPc,false,false⟩),((33,vl),some ⟨18,[],false,false⟩),((7,v7),some ⟨9,[M.z1],false,true⟩),((6,v6),some ⟨9,[M.z1],false,true⟩),((5,v5),some ⟨9,[cT b],false,true⟩)]⟩) J () (by rw[hJ]; trivial) (by simp) fun k _ hk hj=>?_
  have hw:=wrap64 (n:=(k:Int)+1) (by omega) (by omega)
  by_cases g:k<pa.length
  ·simp[g,encPc_eq]
   intros
   refine XCall.retO (by first|exact c4|(simpa using c4)) ?_
   simp
   intros
   refine XLoop.rnd hmix (.s .z) ?_
   simp[XRnd_s,hw,g]
   exact⟨(),by rw[hJ]; trivial⟩
  ·simp[g]
   refine XCall.ret (by first|exact hA|(simpa[AllNil] using hA)) ?_
   simp
set_option maxHeartbeats 8000000 in
theorem c_rules_Index0 (hA:AllNil) (a b:Ty) (h:a=tNever∨b=tNever) (la:a.objects.length≤34359738368) (lb:b.objects.length≤34359738368) :
 Ret prog M.F_rules_Index [.agg (cT a),.agg (cT b)] (.tup [.agg nvC,.agg nvC,.int .i64 (if formedT a&&formedT b then 0 else 1)]):=by
 have c1:=c_right2 a b
 have c3:=c_rules_pieces a la
 have c4:=c_rules_pieces b lb
 have z3:=pcs_len a la
 have hp:pcs a=[]∨pcs b=[]:=by rcases h with rfl|rfl<;>simp[pcs_never]
 generalize pcs a=pa at *
 generalize pcs b=pb at *
 generalize (formedT a&&formedT b)=q at *
 refine Ret.go hmix h_rules_Index (by simp) fun hb w0 F0 hG=>?_
 simp
 intros
 refine XCall.ret (by first|exact c1|(simpa using c1)) ?_
 cases q
 ·simp
 simp
 intros
 refine XCall.retO (by first|exact c3|(simpa using c3)) ?_
 rcases hp with rfl|rfl
 ·simp
  intros
  refine XLoop.rnd hmix (.s .z) ?_
  simp[XRnd_s]
  refine XCall.ret (by first|exact hA|(simpa[AllNil] using hA)) ?_
  simp[XRnd_s]
 ·simp
  intro vp
  rename_i v2 v3 v4 v5 v14 vl
  obtain⟨J,hJ⟩ : ∃ J:Nat→Unit→Prop,J=fun _ _=>True:=⟨_,rfl⟩
  refine XLoop.cnt hmix pa.length (fun k (_:Unit)=>⟨[(23,.int .i64 k),(22,.int .i64 pa.length),(21,.own (21,vp) 10 0 pa.length false),(7,.own (19,vl) 18 0 0 true),(6,.int .i64 0),(5,.ptr (5,v5) 9 0 0),(4,.ptr (4,v4) 9 0 0),(3,.ptr (3,v3) 9 0 0)],[((21,vp),some ⟨10,pa.map encPc,false,false⟩),((19,vl),some ⟨18,[],false,false⟩),((5,v5),some ⟨9,[M.z1],false,true⟩),((4,v4),some ⟨9,[M.z1],false,true⟩),((3,v3),some ⟨9,[cT b],false,true⟩)]⟩) J () (by rw[hJ]; trivial) (by simp) fun k _ hk hj=>?_
  have hw:=wrap64 (n:=(k:Int)+1) (by omega) (by omega)
  by_cases g:k<pa.length
  ·simp[g,encPc_eq]
   intros
   refine XCall.retO (by first|exact c4|(simpa using c4)) ?_
   simp
   intros
   refine XLoop.rnd hmix (.s .z) ?_
   simp[XRnd_s,hw,g]
   exact⟨(),by rw[hJ]; trivial⟩
  ·simp[g]
   refine XCall.ret (by first|exact hA|(simpa[AllNil] using hA)) ?_
   simp
end Go.Proofs.YtbdogkmdanmojaaGreatDoor.Pv
set_option maxRecDepth 100000
namespace Go.Proofs.YtbdogkmdanmojaaGreatDoor.Pv
open Go Go.Tidy
theorem itoa3:itoaS 3=⟨#[51]⟩:=by
 unfold itoaS
 simp[Lib.itoa,Lib.decDigits]
theorem itoa4:itoaS 4=⟨#[52]⟩:=by
 unfold itoaS
 simp[Lib.itoa,Lib.decDigits]
theorem itoa5:itoaS 5=⟨#[53]⟩:=by
 unfold itoaS
 simp[Lib.itoa,Lib.decDigits]
def lastLe (b:ByteArray):Bool:=match b.data.toList.getLast? with
 | some c=>decide (c≤50)
 | none=>true
theorem primT_last:(primT.all fun p=>lastLe p.1)=true:=by kernel_rfl
theorem key_last {s:ByteArray} {n:Int} (h:n=3∨n=4∨n=5):lastLe (keyS s n)=false:=by
 have e:∀ (c:UInt8),itoaS n=⟨#[c]⟩→50<c→lastLe (keyS s n)=false:=fun c hc h50=>by
  have h1:(keyS s n).data.toList=(s.data.toList++[47])++[c]:=by
   unfold keyS
   rw[hc]
   simp
  unfold lastLe
  rw[h1,List.getLast?_append]
  simp
  exact h50
 rcases h with rfl|rfl|rfl
 ·exact e 51 itoa3 (by decide)
 ·exact e 52 itoa4 (by decide)
 ·exact e 53 itoa5 (by decide)
theorem key_none {s:ByteArray} {n:Int} (h:n=3∨n=4∨n=5):hasF (keyS s n) primT=false:=by
 have h1:=key_last (s:=s) h
 unfold hasF
 rw[List.any_eq_false]
 intro p hp he
 have h2:=List.all_eq_true.1 primT_last p hp
 unfold strEq at he
 have h3:p.1.data.toList=(keyS s n).data.toList:=by simpa using he
 unfold lastLe at h1 h2
 rw[h3] at h2
 rw[h2] at h1
 cases h1
def prE (s:ByteArray) (L:List Ty):Int:=if hasF (keyS s L.length) primT then (if L.all formedT then 0 else 1) else 2
set_option maxHeartbeats 8000000 in
theorem c_rules_Prim0 (hA:AllNil) (s:ByteArray) (hs:s.size≤140737488355000) (L:List Ty) (hL:L.length≤5) (ho:∀ t∈L,t.objects.length≤34359738368) :
 Ret prog M.F_rules_Prim [.str s,.agg nvC,.vec 9 false (L.map encTy)] (.tup [.agg nvC,.agg nvC,.int .i64 (prE s L)]):=by
 have c1:=c_prim_Is s L.length hs
 have c2:Ret prog M.F_rules_right [.vec 9 false [nvC]] (.bool true):=by
  have c:=c_right1 tNever
  rw[formed_nv] at c
  exact c
 have c3:=c_rules_right L
 have c4:=c_pieces0
 have c5:∀ t∈L,RetO prog M.F_rules_pieces [.agg (cT t)] 10 ((pcs t).map encPc):=fun t ht=>c_rules_pieces t (ho t ht)
 have hk:hasF (keyS s L.length) primT=true→L.length≤2:=fun h=>by
  rcases Nat.lt_or_ge 2 L.length with h2|h2
  ·rw[key_none (by omega)] at h; cases h
  ·exact h2
 have e:prE s L=if hasF (keyS s L.length) primT then (if L.all formedT then 0 else 1) else 2:=rfl
 rw[e]
 clear e
 generalize hasF (keyS s L.length) primT=q at *
 generalize L.all formedT=f at *
 refine Ret.go hmix h_rules_Prim (by simp) fun hb w0 F0 hG=>?_
 simp
 intros
 refine XCall.ret (by first|exact c1|(simpa using c1)) ?_
 cases q
 ·simp
 have hk:=hk rfl
 simp
 intros
 refine XCall.ret (by first|exact c2|(simpa using c2)) ?_
 simp
 refine XCall.ret (by first|exact c3|(simpa using c3)) ?_
 cases f
 ·simp
 simp
 intros
 clear c1 c2 c3
 rcases L with _|⟨x,_|⟨y,_|⟨z,L⟩⟩⟩
 ·refine XLoop.rnd hmix (.s .z) ?_
  simp[XRnd_s]
  refine XCall.retO (by first|exact c4|(simpa using c4)) ?_
  simp[XRnd_s]
  intros
  refine XLoop.rnd hmix (.s .z) ?_
  simp[XRnd_s]
  refine XCall.ret (by first|exact hA|(simpa[AllNil] using hA)) ?_
  simp[XRnd_s]
 ·have x1:=c5 x (by simp)
  generalize pcs x=px at *
  have w1:IntKind.i64.wrap 1=1:=wrap64 (by omega) (by omega)
  refine XLoop.rnd hmix (.s (.s .z)) ?_
  simp[XRnd_s,encTy_eq,w1]
  intros
  refine XCall.retO (by first|exact x1|(simpa using x1)) ?_
  simp[XRnd_s,encTy_eq,w1]
  intros
  refine XCall.retO (by first|exact c4|(simpa using c4)) ?_
  simp[XRnd_s]
  intros
  refine XLoop.rnd hmix (.s .z) ?_
  simp[XRnd_s]
  refine XCall.ret (by first|exact hA|(simpa[AllNil] using hA)) ?_
  simp[XRnd_s]
 ·have x1:=c5 x (by simp)
  have y1:=c5 y (by simp)
  generalize pcs x=px at *
  generalize pcs y=py at *
  have w1:IntKind.i64.wrap 1=1:=wrap64 (by omega) (by omega)
  have w2:IntKind.i64.wrap 2=2:=wrap64 (by omega) (by omega)
  refine XLoop.rnd hmix (.s (.s (.s .z))) ?_
  simp[XRnd_s,encTy_eq,w1,w2]
  intros
  refine XCall.retO (by first|exact x1|(simpa using x1)) ?_
  simp[XRnd_s,encTy_eq,w1,w2]
  intros
  refine XCall.retO (by first|exact y1|(simpa using y1)) ?_
  simp[XRnd_s,encTy_eq,w1,w2]
  intros
  refine XCall.retO (by first|exact c4|(simpa using c4)) ?_
  simp[XRnd_s]
  intros
  refine XLoop.rnd hmix (.s .z) ?_
  simp[XRnd_s]
  refine XCall.ret (by first|exact hA|(simpa[AllNil] using hA)) ?_
  simp[XRnd_s]
 ·simp at hk
end Go.Proofs.YtbdogkmdanmojaaGreatDoor.Pv
namespace Go.Tidy
open Go
def wtS:List S→Nat
 | []=>0
 | s::l=>s.data.toList.length+1+wtS l
mutual
def wtT:Ty→Nat
 | .mk _ _ _ _ _ _ ts az os=>10+wtS ts+wtAs az+wtOs os
def wtAs:List Arr→Nat
 | []=>0
 | .mk t _ _::l=>3+wtT t+wtAs l
def wtOs:List Ob→Nat
 | []=>0
 | .mk ns fs ms r::l=>4+wtS ns+wtTs fs+ms.length+wtT r+wtOs l
def wtTs:List Ty→Nat
 | []=>0
 | t::l=>wtT t+wtTs l
end
end Go.Tidy

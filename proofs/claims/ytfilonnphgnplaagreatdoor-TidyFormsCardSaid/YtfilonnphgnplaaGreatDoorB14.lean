/- Part 14. -/
import Derived.Test.YtfilonnphgnplaaGreatDoorB13
set_option linter.unusedSimpArgs false
set_option linter.unusedVariables false
set_option maxRecDepth 100000
namespace Go.Proofs.YtfilonnphgnplaaGreatDoor.Pv
open Go Go.Tidy
set_option maxHeartbeats 4000000 in
theorem sheight_step (t:Ty) (ht:heightT t<2 ^ 62) (ha:∀ a∈t.arrays,Ret prog M.F_shape_Height [.agg (cT a.item)] (.int .i64 (heightT a.item:Nat)))
 (hr:∀ o∈t.objects,Ret prog M.F_shape_Height [.agg (cT o.rest)] (.int .i64 (heightT o.rest:Nat)))
 (hf:∀ o∈t.objects,∀ x∈o.fields,Ret prog M.F_shape_Height [.agg (cT x)] (.int .i64 (heightT x:Nat))) :
 Ret prog M.F_shape_Height [.agg (cT t)] (.int .i64 (heightT t:Nat)):=by
 refine Ret.go hmix h_shape_Height (by simp) fun hb w0 F0 hG=>?_
 simp only[bndL,bndV,List.length_map,LIM,and_true] at hb
 have hd:=heightT_def t
 generalize heightT t=H at *
 simp
 intro v
 obtain⟨J,hJ⟩ : ∃ J:Nat→Nat→Prop,J=fun k m=>m=heightAs (t.arrays.take k):=⟨_,rfl⟩
 refine XLoop.cnt hmix t.arrays.length (fun (k m:Nat)=>⟨[(13,.int .i64 k),(12,.int .i64 t.arrays.length),(11,.vec 11 false (t.arrays.map encArr)),(3,.int .i64 ((m:Int)-1)),(1,.ptr (1,v) 9 0 0)],[((1,v),some ⟨9,[cT t],false,true⟩)]⟩) J 0 (by simp[hJ,heightAs]) (by simp) fun k m hk hj=>?_
 have hw:=wrap64 (n:=(k:Int)+1) (by omega) (by omega)
 have hj' : m=heightAs (t.arrays.take k):=by rw[hJ] at hj; exact hj
 by_cases h1:k<t.arrays.length
 ·simp[h1]
  intro v5
  refine XCall.ret (ha t.arrays[k] (List.getElem_mem h1)) ?_
  simp[hw]
  refine⟨h1,max m (heightT t.arrays[k].item+1),?_,?_⟩
  ·rw[hJ]
   show _=heightAs _
   rw[heightAs_take h1,hj']
  ·omega
 ·have hm:m=heightAs t.arrays:=by rw[hj',List.take_of_length_le (by omega)]
  simp[h1]
  clear hj hj' hJ J
  obtain⟨J,hJ⟩ : ∃ J:Nat→Nat→Prop,J=fun k n=>n=max m (heightOs (t.objects.take k)):=⟨_,rfl⟩
  refine XLoop.cnt hmix t.objects.length (fun (k n:Nat)=>⟨[(26,.int .i64 k),(25,.int .i64 t.objects.length),(24,.vec 12 false (t.objects.map encObj)),(3,.int .i64 ((n:Int)-1)),(1,.ptr (1,v) 9 0 0)],[((1,v),some ⟨9,[cT t],false,true⟩)]⟩) J m (by simp[hJ,heightOs]) (by simp) fun i n hi hj=>?_
  have hw:=wrap64 (n:=(i:Int)+1) (by omega) (by omega)
  have hj' : n=max m (heightOs (t.objects.take i)):=by rw[hJ] at hj; exact hj
  by_cases h2:i<t.objects.length
  ·simp[h2]
   intro v7
   refine XCall.ret (hr t.objects[i] (List.getElem_mem h2)) ?_
   simp
   generalize ho:t.objects[i]=o at *
   have hm2:o∈t.objects:=ho ▸ List.getElem_mem h2
   obtain⟨J',hJ'⟩ : ∃ J:Nat→Nat→Prop,J=fun j p=>p=max (max n (heightT o.rest+1)) (heightTs (o.fields.take j)):=⟨_,rfl⟩
   refine XLoop.cnt hmix o.fields.length (fun (j p:Nat)=>⟨[(38,.int .i64 j),(37,.int .i64 o.fields.length),(36,.vec 9 false (o.fields.map encTy)),(3,.int .i64 ((p:Int)-1)),(26,.int .i64 i),(25,.int .i64 t.objects.length),(24,.vec 12 false (t.objects.map encObj)),(1,.ptr (1,v) 9 0 0)],[((1,v),some ⟨9,[cT t],false,true⟩)]⟩) J' (max n (heightT o.rest+1)) (by simp[hJ',heightTs]) (by simp; omega) fun j p hj2 hjj=>?_
   have hbo:o.fields.length≤140737488355328:=by
    have:=bndR_map hb.2.2.2.2.2.2.2.2.2 o hm2
    simp only[encObj_eq,bndL,bndV,List.length_map,LIM,and_true] at this
    omega
   have hw':=wrap64 (n:=(j:Int)+1) (by omega) (by omega)
   have hjj' : p=max (max n (heightT o.rest+1)) (heightTs (o.fields.take j)):=by rw[hJ'] at hjj; exact hjj
   by_cases h3:j<o.fields.length
   ·simp[h2,h3]
    intro v9
    refine XCall.ret (hf o hm2 o.fields[j] (List.getElem_mem h3)) ?_
    simp[hw']
    refine⟨h3,max p (heightT o.fields[j]+1),?_,?_⟩
    ·rw[hJ']
     show _=max _ (heightTs _)
     rw[heightTs_take h3,hjj']
     omega
    ·omega
   ·have hp:p=max (max n (heightT o.rest+1)) (heightTs o.fields):=by rw[hjj',List.take_of_length_le (by omega)]
    simp[h2,h3,hw]
    refine⟨p,?_,rfl⟩
    rw[hJ]
    show _=max _ (heightOs _)
    rw[heightOs_take h2,hp,hj',ho]
    omega
  ·have hn:n=H:=by rw[hj',List.take_of_length_le (by omega),hd,hm]
   have w1:=wrap64 (n:=(H:Int)) (by omega) (by omega)
   simp[h2,hn,w1]
theorem c_shape_Height (t:Ty) (ht:heightT t<2 ^ 62):Ret prog M.F_shape_Height [.agg (cT t)] (.int .i64 (heightT t:Nat)):=by
 induction hn:SizeOf.sizeOf t using Nat.strongRecOn generalizing t with
 | _ n ih =>
   subst hn
   have hd:=heightT_def t
   refine sheight_step t ht (fun a ha=>?_) (fun o ho=>?_) fun o ho x hx=>?_
   ·have:=heightAs_mem ha
    have h2:heightT a.item<2 ^ 62:=by omega
    exact ih _ (sz_item ha) a.item h2 rfl
   ·have:=(heightOs_mem ho).1
    have h2:heightT o.rest<2 ^ 62:=by omega
    exact ih _ (sz_rest ho) o.rest h2 rfl
   ·have h3:=(heightOs_mem ho).2
    have h4:=heightTs_mem hx
    have h2:heightT x<2 ^ 62:=by omega
    exact ih _ (sz_field ho hx) x h2 rfl
end Go.Proofs.YtfilonnphgnplaaGreatDoor.Pv
set_option maxRecDepth 100000
namespace Go.Proofs.YtfilonnphgnplaaGreatDoor.Pv
open Go Go.Tidy
theorem c_slices_Clone_string (fl:Bool) (xs:List (List PV)) (hx:xs.length≤68719476736):RetO prog M.F_slices_Clone_string [.vec 1 fl xs] 1 xs:=by
 refine RetO.go hmix h_slices_Clone_string (by simp) fun hb w0 F0 hG=>?_
 simp
 omega
theorem c_slices_Clone_bool (fl:Bool) (xs:List (List PV)) (hx:xs.length≤68719476736):RetO prog M.F_slices_Clone_bool [.vec 1 fl xs] 1 xs:=by
 refine RetO.go hmix h_slices_Clone_bool (by simp) fun hb w0 F0 hG=>?_
 simp
 omega
theorem c_slices_Clone_Span (fl:Bool) (xs:List (List PV)) (hx:xs.length≤68719476736):RetO prog M.F_slices_Clone_Span [.vec 2 fl xs] 2 xs:=by
 refine RetO.go hmix h_slices_Clone_Span (by simp) fun hb w0 F0 hG=>?_
 simp
 omega
theorem c_slices_Clone_Arr (fl:Bool) (xs:List (List PV)) (hx:xs.length≤68719476736):RetO prog M.F_slices_Clone_Arr [.vec 11 fl xs] 11 xs:=by
 refine RetO.go hmix h_slices_Clone_Arr (by simp) fun hb w0 F0 hG=>?_
 simp
 omega
theorem c_slices_Clone_Obj (fl:Bool) (xs:List (List PV)) (hx:xs.length≤68719476736):RetO prog M.F_slices_Clone_Obj [.vec 12 fl xs] 12 xs:=by
 refine RetO.go hmix h_slices_Clone_Obj (by simp) fun hb w0 F0 hG=>?_
 simp
 omega
theorem c_slices_Clone_Type (fl:Bool) (xs:List (List PV)) (hx:xs.length≤68719476736):RetO prog M.F_slices_Clone_Type [.vec 9 fl xs] 9 xs:=by
 refine RetO.go hmix h_slices_Clone_Type (by simp) fun hb w0 F0 hG=>?_
 simp
 omega
theorem c_slices_Grow_string (n:Nat) (hn:n≤34359738368):RetO prog M.F_slices_Grow_string [.vec 1 true [],.int .i64 n] 1 []:=by
 refine RetO.go hmix h_slices_Grow_string (by simp) fun hb w0 F0 hG=>?_
 have h0:¬ (n:Int)<0:=by omega
 have w1:=wrap64 (n:=(n:Int)) (by omega) (by omega)
 have w2:=wrap64 (n:=0) (by omega) (by omega)
 by_cases h1:0<n
 ·have h1' : (0:Int)<n:=by omega
  have h2:(1:Int)≤n:=by omega
  have h3:(n:Int)≤34359738368:=by omega
  simp
  refine XCut.go hmix ?_
  simp[h0]
  refine XCut.go hmix ?_
  simp[h0,h1,h1',h2,h3,w1,w2]
 ·obtain rfl:n=0:=by omega
  simp
  refine XCut.go hmix ?_
  simp
  refine XCut.go hmix ?_
  simp[w2]
theorem c_slices_Grow_Span (n:Nat) (hn:n≤34359738368):RetO prog M.F_slices_Grow_Span [.vec 2 true [],.int .i64 n] 2 []:=by
 refine RetO.go hmix h_slices_Grow_Span (by simp) fun hb w0 F0 hG=>?_
 have h0:¬ (n:Int)<0:=by omega
 have w1:=wrap64 (n:=(n:Int)) (by omega) (by omega)
 have w2:=wrap64 (n:=0) (by omega) (by omega)
 by_cases h1:0<n
 ·have h1' : (0:Int)<n:=by omega
  have h2:(1:Int)≤n:=by omega
  have h3:(n:Int)≤34359738368:=by omega
  simp
  refine XCut.go hmix ?_
  simp[h0]
  refine XCut.go hmix ?_
  simp[h0,h1,h1',h2,h3,w1,w2]
 ·obtain rfl:n=0:=by omega
  simp
  refine XCut.go hmix ?_
  simp
  refine XCut.go hmix ?_
  simp[w2]
theorem c_slices_Grow_Arr (n:Nat) (hn:n≤34359738368):RetO prog M.F_slices_Grow_Arr [.vec 11 true [],.int .i64 n] 11 []:=by
 refine RetO.go hmix h_slices_Grow_Arr (by simp) fun hb w0 F0 hG=>?_
 have h0:¬ (n:Int)<0:=by omega
 have w1:=wrap64 (n:=(n:Int)) (by omega) (by omega)
 have w2:=wrap64 (n:=0) (by omega) (by omega)
 by_cases h1:0<n
 ·have h1' : (0:Int)<n:=by omega
  have h2:(1:Int)≤n:=by omega
  have h3:(n:Int)≤34359738368:=by omega
  simp
  refine XCut.go hmix ?_
  simp[h0]
  refine XCut.go hmix ?_
  simp[h0,h1,h1',h2,h3,w1,w2]
 ·obtain rfl:n=0:=by omega
  simp
  refine XCut.go hmix ?_
  simp
  refine XCut.go hmix ?_
  simp[w2]
theorem c_slices_Grow_Obj (n:Nat) (hn:n≤34359738368):RetO prog M.F_slices_Grow_Obj [.vec 12 true [],.int .i64 n] 12 []:=by
 refine RetO.go hmix h_slices_Grow_Obj (by simp) fun hb w0 F0 hG=>?_
 have h0:¬ (n:Int)<0:=by omega
 have w1:=wrap64 (n:=(n:Int)) (by omega) (by omega)
 have w2:=wrap64 (n:=0) (by omega) (by omega)
 by_cases h1:0<n
 ·have h1' : (0:Int)<n:=by omega
  have h2:(1:Int)≤n:=by omega
  have h3:(n:Int)≤34359738368:=by omega
  simp
  refine XCut.go hmix ?_
  simp[h0]
  refine XCut.go hmix ?_
  simp[h0,h1,h1',h2,h3,w1,w2]
 ·obtain rfl:n=0:=by omega
  simp
  refine XCut.go hmix ?_
  simp
  refine XCut.go hmix ?_
  simp[w2]
theorem c_slices_Concat_string (f1 f2:Bool) (a b:List (List PV)) (hn:a.length+b.length≤34359738368):RetO prog M.F_slices_Concat_string [.vec 1 false [[.vec 1 f1 a],[.vec 1 f2 b]]] 1 (a++b):=by
 refine RetO.go hmix h_slices_Concat_string (by simp) fun hb w0 F0 hG=>?_
 have h0:¬ (a.length:Int)<0:=by omega
 have h0' : ¬ ((a.length:Int)+b.length)<0:=by omega
 have w1:=wrap64 (n:=(a.length:Int)) (by omega) (by omega)
 have w2:=wrap64 (n:=(a.length:Int)+b.length) (by omega) (by omega)
 have k1:=wrap64 (n:=1) (by omega) (by omega)
 have k2:=wrap64 (n:=2) (by omega) (by omega)
 have hc:=c_slices_Grow_string (a.length+b.length) (by omega)
 rw[show (((a.length+b.length:Nat)):Int)=(a.length:Int)+b.length by omega] at hc
 simp
 refine XLoop.rnd hmix (.s (.s (.s .z))) ?_
 simp[XRnd_s]
 refine XCut.go hmix ?_
 simp[h0,w1,k1,k2,XRnd_s]
 refine XCut.go hmix ?_
 simp[h0',w1,w2,k1,k2,XRnd_s]
 refine XCall.retO_lite (by simp[lite,liteL]) hc fun v hv=>?_
 simp
 refine XLoop.rnd hmix (.s (.s (.s .z))) ?_
 simp[k1,k2,XRnd_s]
 have q1:a.length≤68719476736:=by omega
 have q2:a.length+b.length≤68719476736:=by omega
 simp[q1,q2]
 exact List.take_of_length_le (by simp)
theorem c_slices_Concat_Span (f1 f2:Bool) (a b:List (List PV)) (hn:a.length+b.length≤34359738368):RetO prog M.F_slices_Concat_Span [.vec 1 false [[.vec 2 f1 a],[.vec 2 f2 b]]] 2 (a++b):=by
 refine RetO.go hmix h_slices_Concat_Span (by simp) fun hb w0 F0 hG=>?_
 have h0:¬ (a.length:Int)<0:=by omega
 have h0' : ¬ ((a.length:Int)+b.length)<0:=by omega
 have w1:=wrap64 (n:=(a.length:Int)) (by omega) (by omega)
 have w2:=wrap64 (n:=(a.length:Int)+b.length) (by omega) (by omega)
 have k1:=wrap64 (n:=1) (by omega) (by omega)
 have k2:=wrap64 (n:=2) (by omega) (by omega)
 have hc:=c_slices_Grow_Span (a.length+b.length) (by omega)
 rw[show (((a.length+b.length:Nat)):Int)=(a.length:Int)+b.length by omega] at hc
 simp
 refine XLoop.rnd hmix (.s (.s (.s .z))) ?_
 simp[XRnd_s]
 refine XCut.go hmix ?_
 simp[h0,w1,k1,k2,XRnd_s]
 refine XCut.go hmix ?_
 simp[h0',w1,w2,k1,k2,XRnd_s]
 refine XCall.retO_lite (by simp[lite,liteL]) hc fun v hv=>?_
 simp
 refine XLoop.rnd hmix (.s (.s (.s .z))) ?_
 simp[k1,k2,XRnd_s]
 have q1:a.length≤68719476736:=by omega
 have q2:a.length+b.length≤68719476736:=by omega
 simp[q1,q2]
 exact List.take_of_length_le (by simp)
theorem c_slices_Concat_Arr (f1 f2:Bool) (a b:List (List PV)) (hn:a.length+b.length≤34359738368):RetO prog M.F_slices_Concat_Arr [.vec 1 false [[.vec 11 f1 a],[.vec 11 f2 b]]] 11 (a++b):=by
 refine RetO.go hmix h_slices_Concat_Arr (by simp) fun hb w0 F0 hG=>?_
 have h0:¬ (a.length:Int)<0:=by omega
 have h0' : ¬ ((a.length:Int)+b.length)<0:=by omega
 have w1:=wrap64 (n:=(a.length:Int)) (by omega) (by omega)
 have w2:=wrap64 (n:=(a.length:Int)+b.length) (by omega) (by omega)
 have k1:=wrap64 (n:=1) (by omega) (by omega)
 have k2:=wrap64 (n:=2) (by omega) (by omega)
 have hc:=c_slices_Grow_Arr (a.length+b.length) (by omega)
 rw[show (((a.length+b.length:Nat)):Int)=(a.length:Int)+b.length by omega] at hc
 simp
 refine XLoop.rnd hmix (.s (.s (.s .z))) ?_
 simp[XRnd_s]
 refine XCut.go hmix ?_
 simp[h0,w1,k1,k2,XRnd_s]
 refine XCut.go hmix ?_
 simp[h0',w1,w2,k1,k2,XRnd_s]
 refine XCall.retO_lite (by simp[lite,liteL]) hc fun v hv=>?_
 simp
 refine XLoop.rnd hmix (.s (.s (.s .z))) ?_
 simp[k1,k2,XRnd_s]
 have q1:a.length≤68719476736:=by omega
 have q2:a.length+b.length≤68719476736:=by omega
 simp[q1,q2]
 exact List.take_of_length_le (by simp)
theorem c_slices_Concat_Obj (f1 f2:Bool) (a b:List (List PV)) (hn:a.length+b.length≤34359738368):RetO prog M.F_slices_Concat_Obj [.vec 1 false [[.vec 12 f1 a],[.vec 12 f2 b]]] 12 (a++b):=by
 refine RetO.go hmix h_slices_Concat_Obj (by simp) fun hb w0 F0 hG=>?_
 have h0:¬ (a.length:Int)<0:=by omega
 have h0' : ¬ ((a.length:Int)+b.length)<0:=by omega
 have w1:=wrap64 (n:=(a.length:Int)) (by omega) (by omega)
 have w2:=wrap64 (n:=(a.length:Int)+b.length) (by omega) (by omega)
 have k1:=wrap64 (n:=1) (by omega) (by omega)
 have k2:=wrap64 (n:=2) (by omega) (by omega)
 have hc:=c_slices_Grow_Obj (a.length+b.length) (by omega)
 rw[show (((a.length+b.length:Nat)):Int)=(a.length:Int)+b.length by omega] at hc
 simp
 refine XLoop.rnd hmix (.s (.s (.s .z))) ?_
 simp[XRnd_s]
 refine XCut.go hmix ?_
 simp[h0,w1,k1,k2,XRnd_s]
 refine XCut.go hmix ?_
 simp[h0',w1,w2,k1,k2,XRnd_s]
 refine XCall.retO_lite (by simp[lite,liteL]) hc fun v hv=>?_
 simp
 refine XLoop.rnd hmix (.s (.s (.s .z))) ?_
 simp[k1,k2,XRnd_s]
 have q1:a.length≤68719476736:=by omega
 have q2:a.length+b.length≤68719476736:=by omega
 simp[q1,q2]
 exact List.take_of_length_le (by simp)
end Go.Proofs.YtfilonnphgnplaaGreatDoor.Pv
set_option maxRecDepth 100000
namespace Go.Proofs.YtfilonnphgnplaaGreatDoor.Pv
open Go Go.Tidy
theorem c_tidy_alone (o:Ob):Ret prog M.F_tidy_alone [.agg (cO o)] (.agg (cT (aloneT o))):=by
 refine Ret.go hmix h_tidy_alone (by simp) fun hb w0 F0 hG=>?_
 simp[aloneT,encObj_eq]
theorem c_tidy_lesser (a b:S) (ha:boundB a=true) (hb' : boundB b=true):Ret prog M.F_tidy_lesser [.str a,.str b] (.str (lowS a b)):=by
 refine Ret.go hmix h_tidy_lesser (by simp) fun hb w0 F0 hG=>?_
 unfold lowS
 rw[emp_eq]
 have hc:=c_tens_Cmp a b
 simp
 refine XCall.ret hc ?_
 cases e1:sEmp a
 ·cases e2:sEmp b
  ·have n1:=boundB_num ha e1
   have n2:=boundB_num hb' e2
   cases numCmp a b<;>simp[e1,e2,n1,n2,oInt]
  ·simp[e1,e2]
   exact sEmp_iff.1 e2
 ·simp[e1]
  exact sEmp_iff.1 e1
theorem c_tidy_greater (a b:S) (ha:boundB a=true) (hb' : boundB b=true):Ret prog M.F_tidy_greater [.str a,.str b] (.str (highS a b)):=by
 refine Ret.go hmix h_tidy_greater (by simp) fun hb w0 F0 hG=>?_
 unfold highS
 rw[emp_eq]
 have hc:=c_tens_Cmp a b
 simp
 refine XCall.ret hc ?_
 cases e1:sEmp a
 ·cases e2:sEmp b
  ·have n1:=boundB_num ha e1
   have n2:=boundB_num hb' e2
   cases numCmp a b<;>simp[e1,e2,n1,n2,oInt]
  ·simp[e1,e2]
   exact sEmp_iff.1 e2
 ·simp[e1]
  exact sEmp_iff.1 e1
theorem c_tidy_spans (a b:List Span) (ha:∀ s∈a,spanB s=true) (hb' : ∀ s∈b,spanB s=true) (hl:a.length+b.length≤34359738368) :
 Ret prog M.F_tidy_spans [.vec 2 false (a.map encSpan),.vec 2 false (b.map encSpan)] (.vec 2 false ((sumN a b).map encSpan)):=by
 refine Ret.go hmix h_tidy_spans (by simp) fun hb w0 F0 hG=>?_
 have hc:=c_slices_Concat_Span false false (a.map encSpan) (b.map encSpan) (by simpa using hl)
 cases a with
 | nil =>
   simp
   intros
   refine XCall.retO (by simpa using hc) ?_
   intro v hv
   simp[sumN]
 | cons x a =>
   cases b with
   | nil =>
     simp
     intros
     refine XCall.retO (by simpa using hc) ?_
     intro v hv
     simp[sumN]
   | cons y b =>
     have h1:=spanB_iff.1 (ha x (by simp))
     have h2:=spanB_iff.1 (hb' y (by simp))
     have q:¬ ((a.length:Int)+1=0):=by omega
     have q' : ¬ ((b.length:Int)+1=0):=by omega
     have q2:(0:Int)<(a.length:Int)+1:=by omega
     have q3:(0:Int)<(b.length:Int)+1:=by omega
     simp[q,q',q2,q3]
     intros
     refine XDCall.ret (c_tidy_lesser x.low y.low h1.1 h2.1) ?_
     simp[q,q',q2,q3]
     refine XDCall.ret (c_tidy_greater x.high y.high h1.2.1 h2.2.1) ?_
     simp[q,q',q2,q3,sumN]
theorem c_cmp_Less_string (a b:S):Ret prog M.F_cmp_Less_string [.str a,.str b] (.bool (sLt a b)):=by
 refine Ret.go hmix h_cmp_Less_string (by simp) fun hb w0 F0 hG=>?_
 simp
 refine XCall.ret (c_cmp_isNaN_string a) ?_
 simp
theorem c_slices_isNaN_string (a:S):Ret prog M.F_slices_isNaN_string [.str a] (.bool false):=by
 refine Ret.go hmix h_slices_isNaN_string (by simp) fun hb w0 F0 hG=>?_
 simp[sEq]
end Go.Proofs.YtfilonnphgnplaaGreatDoor.Pv
set_option maxRecDepth 100000
namespace Go.Proofs.YtfilonnphgnplaaGreatDoor.Pv
open Go Go.Tidy
theorem wrapu64 {n:Int} (h1:0≤n) (h2:n≤18446744073709551615):IntKind.u64.wrap n=n:=by
 simp[IntKind.wrap,IntKind.bits,IntKind.signed]
 omega
theorem c_slices_BinarySearch_string (l:List S) (x:S) (i:Nat) (hi:i≤l.length) (h1:∀ k,(h:k<l.length)→k<i→sLt l[k] x=true) (h2:∀ k,(h:k<l.length)→i≤k→sLt l[k] x=false) :
 Ret prog M.F_slices_BinarySearch_string [.vec 1 false (l.map encStr),.str x] (.tup [.int .i64 i,.bool (decide (l[i]? = some x))]):=by
 refine Ret.go hmix h_slices_BinarySearch_string (by simp) fun hb w0 F0 hG=>?_
 simp only[bndL,bndV,List.length_map,LIM,and_true] at hb
 simp
 obtain⟨J,hJ⟩ : ∃ J:Nat × Nat→Prop,J=fun g=>g.1≤i∧i≤g.2∧g.2≤l.length:=⟨_,rfl⟩
 refine XLoop.go hmix (fun g:Nat × Nat=>⟨[(7,.int .i64 g.1),(8,.int .i64 g.2),(6,.int .i64 l.length),(1,.str x),(0,.vec 1 false (l.map encStr))],[]⟩) J (fun g=>g.2-g.1) (0,l.length) (by simp[hJ]; exact hi) (by simp) fun g hj=>?_
 obtain⟨a,b⟩:=g
 have hj' : a≤i∧i≤b∧b≤l.length:=by rw[hJ] at hj; exact hj
 obtain⟨g1,g2,g3⟩:=hj'
 have w1:=wrap64 (n:=(a:Int)+b) (by omega) (by omega)
 have w2:=wrapu64 (n:=(a:Int)+b) (by omega) (by omega)
 by_cases hab:a<b
 ·have hd:((a:Int)+b).fdiv 2=((a+b) / 2:Nat):=by
     rw[Int.fdiv_eq_ediv_of_nonneg _ (by omega)]; omega
  have w3:=wrapu64 (n:=(((a+b) / 2:Nat):Int)) (by omega) (by omega)
  have w4:=wrap64 (n:=(((a+b) / 2:Nat):Int)) (by omega) (by omega)
  have w5:=wrap64 (n:=(((a+b) / 2:Nat):Int)+1) (by omega) (by omega)
  generalize hh:(a+b) / 2=h at *
  have hl:h<l.length:=by omega
  have e:=h1 h hl
  have e':=h2 h hl
  have p2:(2:Int) ^ min 1 IntKind.u64.bits=2:=by decide
  simp[hab,w1,w2,p2,hd,w3,w4]
  refine XCut.go hmix ?_
  simp[hl]
  refine XCall.ret (c_cmp_Less_string l[h] x) ?_
  by_cases hc:h<i
  ·simp[e hc,w5]
   refine⟨h+1,b,?_,by omega,by simp⟩
   rw[hJ]; exact⟨by show h+1≤i; omega,g2,g3⟩
  ·simp[e' (by omega)]
   refine⟨a,h,?_,by omega,by simp⟩
   rw[hJ]; exact⟨g1,by show i≤h; omega,by show h≤l.length; omega⟩
 ·obtain rfl:a=b:=by omega
  obtain rfl:a=i:=by omega
  by_cases hc:a<l.length
  ·have hq:sEq l[a] x=decide (l[a]=x):=by
      rw[Bool.eq_iff_iff,sEq_iff]; simp
   cases hd:decide (l[a]=x)
   ·simp[hc,hq,hd]
    refine XCall.ret (c_slices_isNaN_string _) ?_
    simp[hc,hq,hd]
   ·simp[hc,hq,hd]
  ·simp[hc]
theorem low_ex (l:List S) (x:S) (hs:SSs l):∃ i:Nat,i≤l.length∧(∀ k,(h:k<l.length)→k<i→sLt l[k] x=true)∧(∀ k,(h:k<l.length)→i≤k→sLt l[k] x=false):=by
 induction l with
 | nil=>exact⟨0,by simp,by simp,by simp⟩
 | cons a l ih =>
   have h':=List.pairwise_cons.1 hs
   cases ha:sLt a x
   ·refine⟨0,by simp,by simp,fun k hk _=>?_⟩
    cases k with
    | zero=>exact ha
    | succ k =>
      cases e:sLt ((a::l)[k+1]) x
      ·rfl
      ·have hk' : k<l.length:=by simpa using hk
       have h1:=sCmp_lt.1 (h'.1 l[k] (List.getElem_mem hk'))
       have:=sLt_trans h1 (by simpa using e)
       rw[ha] at this; cases this
   ·obtain⟨i,i1,i2,i3⟩:=ih h'.2
    refine⟨i+1,by simp; omega,fun k hk hlt=>?_,fun k hk hge=>?_⟩
    ·cases k with
     | zero=>exact ha
     | succ k=>exact i2 k (by simpa using hk) (by omega)
    ·cases k with
     | zero=>omega
     | succ k=>exact i3 k (by simpa using hk) (by omega)
theorem field_at {o:Ob} {n:S} {i:Nat} (h1:o.names.length=o.fields.length) (h2:o.names.length=o.must.length) (hi:i<o.names.length) (hs:SSs o.names) (e:o.names[i]=n):fieldO o n=(o.fields[i]'(by omega),o.must[i]'(by omega)):=by
 have hl:i<(o.names.zip (o.fields.zip o.must)).length:=by simp; omega
 have hz:(o.names.zip (o.fields.zip o.must))[i]=(o.names[i],o.fields[i]'(by omega),o.must[i]'(by omega)):=by simp
 unfold fieldO
 rw[find_at hl (fun j hj hlt=>?_) (by rw[hz]; exact sEq_iff.2 e),hz]
 have hjn:j<o.names.length:=by omega
 have hz' : (o.names.zip (o.fields.zip o.must))[j]=(o.names[j],o.fields[j]'(by omega),o.must[j]'(by omega)):=by simp
 rw[hz']
 have:=sCmp_lt.1 (List.pairwise_iff_getElem.1 hs j i hjn hi hlt)
 show (!sEq o.names[j] n)=true
 cases e' : sEq o.names[j] n
 ·rfl
 ·rw[sEq_iff.1 e',e,sLt_irrefl] at this; cases this
theorem field_no {o:Ob} {n:S} (hn:n ∉ o.names):fieldO o n=(o.rest,false):=by
 unfold fieldO
 have:(o.names.zip (o.fields.zip o.must)).find? (fun p=>sEq p.1 n)=none:=by
  rw[List.find?_eq_none]
  intro p hp hq
  exact hn (sEq_iff.1 hq ▸ (List.of_mem_zip hp).1)
 rw[this]
theorem low_no {l:List S} {x:S} {i:Nat} (hs:SSs l) (h1:∀ k,(h:k<l.length)→k<i→sLt l[k] x=true) (h2:∀ k,(h:k<l.length)→i≤k→sLt l[k] x=false) (hn:l[i]?≠some x):x ∉ l:=by
 intro hx
 obtain⟨k,hk,e⟩:=List.getElem_of_mem hx
 by_cases hki:k<i
 ·have:=h1 k hk hki
  rw[e,sLt_irrefl] at this; cases this
 ·by_cases hik:i=k
  ·subst hik
   exact hn (by rw[List.getElem?_eq_getElem hk,e])
  ·have a:=sCmp_lt.1 (List.pairwise_iff_getElem.1 hs i k (by omega) hk (by omega))
   have b:=h2 i (by omega) (Nat.le_refl _)
   rw[e,b] at a; cases a
set_option maxHeartbeats 4000000 in
theorem c_tidy_field (o:Ob) (n:S) (h1:o.names.length=o.fields.length) (h2:o.names.length=o.must.length) (hs:SSs o.names):Ret prog M.F_tidy_field [.agg (cO o),.str n] (.tup [.agg (cT (fieldO o n).1),.bool (fieldO o n).2]):=by
 obtain⟨i,i1,i2,i3⟩:=low_ex o.names n hs
 have hc:=c_slices_BinarySearch_string o.names n i i1 i2 i3
 have hR:fieldO o n=if h:o.names[i]? = some n then (o.fields[i]'(by have:=(List.getElem?_eq_some_iff.1 h).1; omega),o.must[i]'(by have:=(List.getElem?_eq_some_iff.1 h).1; omega)) else (o.rest,false):=by
  split
  ·rename_i h
   obtain⟨hi,e⟩:=List.getElem?_eq_some_iff.1 h
   exact field_at h1 h2 hi hs e
  ·rename_i h
   exact field_no (low_no hs i2 i3 h)
 generalize fieldO o n=R at *
 refine Ret.go hmix h_tidy_field (by simp) fun hb w0 F0 hG=>?_
 simp
 intros
 refine XCall.ret hc ?_
 by_cases h:o.names[i]? = some n
 ·have hi:i<o.names.length:=(List.getElem?_eq_some_iff.1 h).1
  have g2:i<o.fields.length:=by omega
  have g3:i<o.must.length:=by omega
  rw[dif_pos h] at hR
  simp[h,g2,g3,hR]
 ·rw[dif_neg h] at hR
  simp[h,hR]
end Go.Proofs.YtfilonnphgnplaaGreatDoor.Pv
set_option maxRecDepth 100000
namespace Go.Proofs.YtfilonnphgnplaaGreatDoor.Pv
open Go Go.Tidy
def idxI {α:Type} (p:α→Bool) (l:List α):Int:=if l.any p then (l.findIdx p:Nat) else -1
theorem idxI_at {α:Type} {p:α→Bool} {l:List α} {k:Nat} (hk:k<l.length) (ha:AllTo (fun x=>!p x) l k) (h:p l[k]=true):idxI p l=k:=by
 have h1:l.any p=true:=List.any_eq_true.2 ⟨_,List.getElem_mem hk,h⟩
 have h2:l.findIdx p=k:=(List.findIdx_eq hk).2 ⟨h,fun j hj=>by
  have:=ha j (by omega) hj
  rw[Bool.not_eq_true'] at this; exact this⟩
 simp[idxI,h1,h2]
theorem idxI_no {α:Type} {p:α→Bool} {l:List α} {k:Nat} (ha:AllTo (fun x=>!p x) l k) (hk:¬ k<l.length):idxI p l=-1:=by
 have:=ha.all hk
 have h1:l.any p=false:=by
  rw[List.any_eq_false]; simpa[List.all_eq_true] using this
 simp[idxI,h1]
theorem idxI_ge {α:Type} (p:α→Bool) (l:List α):decide (0≤idxI p l)=l.any p:=by
 unfold idxI
 cases l.any p<;>simp
theorem c_slices_Index_string (l:List S) (x:S):Ret prog M.F_slices_Index_string [.vec 1 false (l.map encStr),.str x] (.int .i64 (idxI (fun u=>sEq u x) l)):=by
 refine Ret.go hmix h_slices_Index_string (by simp) fun hb w0 F0 hG=>?_
 simp only[bndL,bndV,List.length_map,LIM,and_true] at hb
 generalize hB:idxI (fun u=>sEq u x) l=B
 obtain⟨J,hJ⟩ : ∃ J:Nat→Unit→Prop,J=fun k _=>AllTo (fun u=>!sEq u x) l k:=⟨_,rfl⟩
 simp
 refine XLoop.cnt hmix l.length (fun k _=>⟨[(8,.int .i64 k),(7,.int .i64 l.length),(1,.str x),(0,.vec 1 false (l.map encStr))],[]⟩) J () (by rw[hJ]; exact .zero) (by simp) fun k _ hk hj=>?_
 have hw:=wrap64 (n:=(k:Int)+1) (by omega) (by omega)
 have hj' : AllTo (fun u=>!sEq u x) l k:=by rw[hJ] at hj; exact hj
 by_cases g1:k<l.length
 ·have hq:sEq x l[k]=sEq l[k] x:=by rw[Bool.eq_iff_iff,sEq_iff,sEq_iff]; exact eq_comm
  cases e1:sEq l[k] x
  ·simp[g1,hq,e1,hw]
   exact⟨(),by rw[hJ]; exact hj'.step g1 (by simp[e1])⟩
  ·have:=idxI_at g1 hj' e1
   simp[g1,hq,e1]
   rw[← hB,this]
 ·have:B=-1:=by rw[← hB]; exact idxI_no hj' g1
  have w1:=wrap64 (n:=-1) (by omega) (by omega)
  simp[g1,this,w1]
theorem c_slices_Contains_string (l:List S) (x:S):Ret prog M.F_slices_Contains_string [.vec 1 false (l.map encStr),.str x] (.bool (l.any fun u=>sEq u x)):=by
 refine Ret.go hmix h_slices_Contains_string (by simp) fun hb w0 F0 hG=>?_
 rw[← idxI_ge]
 simp
 refine XCall.ret (c_slices_Index_string l x) ?_
 simp
theorem c_slices_IndexFunc_string (l:List S) (fid:Nat) (caps:List PV) (p:S→Bool) (hc:∀ hl,reifyL hl caps=caps) (hk:∀ hl,keysL hl caps=[]) (hok:∀ hl,okL hl caps) (hp:∀ s∈l,Ret prog fid (.str s::caps) (.bool (p s))):Ret prog M.F_slices_IndexFunc_string [.vec 1 false (l.map encStr),.fn fid [] caps] (.int .i64 (idxI p l)):=by
 refine Ret.go hmix h_slices_IndexFunc_string (by simp) fun hb w0 F0 hG=>?_
 simp only[bndL,bndV,List.length_map,LIM,and_true] at hb
 generalize hB:idxI p l=B
 obtain⟨J,hJ⟩ : ∃ J:Nat→Unit→Prop,J=fun k _=>AllTo (fun u=>!p u) l k:=⟨_,rfl⟩
 simp
 refine XLoop.cnt hmix l.length (fun k _=>⟨[(8,.int .i64 k),(7,.int .i64 l.length),(1,.fn fid [] caps),(0,.vec 1 false (l.map encStr))],[]⟩) J () (by rw[hJ]; exact .zero) (by simp) fun k _ hk' hj=>?_
 have hw:=wrap64 (n:=(k:Int)+1) (by omega) (by omega)
 have hj' : AllTo (fun u=>!p u) l k:=by rw[hJ] at hj; exact hj
 by_cases g1:k<l.length
 ·cases e1:p l[k]
  ·simp[g1,hw]
   refine XCall.ret (r:=.bool (p l[k])) (by simp[hc]; exact hp _ (List.getElem_mem g1)) ?_
   simp[e1,hc,hk,hok,hw]
   exact⟨g1,(),by rw[hJ]; exact hj'.step g1 (by simp[e1])⟩
  ·have:=idxI_at g1 hj' e1
   simp[g1,hw]
   refine XCall.ret (r:=.bool (p l[k])) (by simp[hc]; exact hp _ (List.getElem_mem g1)) ?_
   simp[e1,hc,hk,hok,hw]
   rw[← hB,this]
 ·have:B=-1:=by rw[← hB]; exact idxI_no hj' g1
  have w1:=wrap64 (n:=-1) (by omega) (by omega)
  simp[g1,this,w1]
theorem c_slices_ContainsFunc_string (l:List S) (fid:Nat) (caps:List PV) (p:S→Bool) (hc:∀ hl,reifyL hl caps=caps) (hk:∀ hl,keysL hl caps=[]) (hok:∀ hl,okL hl caps) (hp:∀ s∈l,Ret prog fid (.str s::caps) (.bool (p s))):Ret prog M.F_slices_ContainsFunc_string [.vec 1 false (l.map encStr),.fn fid [] caps] (.bool (l.any p)):=by
 refine Ret.go hmix h_slices_ContainsFunc_string (by simp) fun hb w0 F0 hG=>?_
 rw[← idxI_ge]
 simp
 refine XCall.ret (r:=.int .i64 (idxI p l)) (by simp[hc]; exact c_slices_IndexFunc_string l fid caps p hc hk hok hp) ?_
 simp[hc,hk,hok]
theorem c_slices_IndexFunc_Obj (l:List Ob) (fid:Nat) (caps:List PV) (p:Ob→Bool) (hc:∀ hl,reifyL hl caps=caps) (hk:∀ hl,keysL hl caps=[]) (hok:∀ hl,okL hl caps) (hp:∀ s∈l,Ret prog fid (.agg (cO s)::caps) (.bool (p s))):Ret prog M.F_slices_IndexFunc_Obj [.vec 12 false (l.map encObj),.fn fid [] caps] (.int .i64 (idxI p l)):=by
 refine Ret.go hmix h_slices_IndexFunc_Obj (by simp) fun hb w0 F0 hG=>?_
 simp only[bndL,bndV,List.length_map,LIM,and_true] at hb
 generalize hB:idxI p l=B
 obtain⟨J,hJ⟩ : ∃ J:Nat→Unit→Prop,J=fun k _=>AllTo (fun u=>!p u) l k:=⟨_,rfl⟩
 simp
 refine XLoop.cnt hmix l.length (fun k _=>⟨[(8,.int .i64 k),(7,.int .i64 l.length),(1,.fn fid [] caps),(0,.vec 12 false (l.map encObj))],[]⟩) J () (by rw[hJ]; exact .zero) (by simp) fun k _ hk' hj=>?_
 have hw:=wrap64 (n:=(k:Int)+1) (by omega) (by omega)
 have hj' : AllTo (fun u=>!p u) l k:=by rw[hJ] at hj; exact hj
 by_cases g1:k<l.length
 ·have h0:=hp l[k] (List.getElem_mem g1)
  cases e1:p l[k]
  ·simp[g1,hw]
   refine XCall.ret (r:=.bool (p l[k])) (by simp[hc]; exact h0) ?_
   simp[e1,hc,hk,hok,hw]
   exact⟨g1,(),by rw[hJ]; exact hj'.step g1 (by simp[e1])⟩
  ·have:=idxI_at g1 hj' e1
   simp[g1,hw]
   refine XCall.ret (r:=.bool (p l[k])) (by simp[hc]; exact h0) ?_
   simp[e1,hc,hk,hok,hw]
   rw[← hB,this]
 ·have:B=-1:=by rw[← hB]; exact idxI_no hj' g1
  have w1:=wrap64 (n:=-1) (by omega) (by omega)
  simp[g1,this,w1]
theorem c_slices_ContainsFunc_Obj (l:List Ob) (fid:Nat) (caps:List PV) (p:Ob→Bool) (hc:∀ hl,reifyL hl caps=caps) (hk:∀ hl,keysL hl caps=[]) (hok:∀ hl,okL hl caps) (hp:∀ s∈l,Ret prog fid (.agg (cO s)::caps) (.bool (p s))):Ret prog M.F_slices_ContainsFunc_Obj [.vec 12 false (l.map encObj),.fn fid [] caps] (.bool (l.any p)):=by
 refine Ret.go hmix h_slices_ContainsFunc_Obj (by simp) fun hb w0 F0 hG=>?_
 rw[← idxI_ge]
 simp
 refine XCall.ret (r:=.int .i64 (idxI p l)) (by simp[hc]; exact c_slices_IndexFunc_Obj l fid caps p hc hk hok hp) ?_
 simp[hc,hk,hok]
end Go.Proofs.YtfilonnphgnplaaGreatDoor.Pv
set_option maxRecDepth 100000
namespace Go.Proofs.YtfilonnphgnplaaGreatDoor.Pv
open Go Go.Tidy
def kStep (a:Int) (k:Nat) (b:Bool):Int:=if b then IntKind.u8.wrap ((BitVec.ofInt IntKind.u8.bits a ||| BitVec.ofInt IntKind.u8.bits (IntKind.u8.wrap (1*2 ^ (min (k:Int).toNat IntKind.u8.bits)))).toNat:Int) else a
theorem wrap8_bd (n:Int):0≤IntKind.u8.wrap n∧IntKind.u8.wrap n≤255:=by
 simp[IntKind.wrap,IntKind.bits,IntKind.signed]
 omega
def kFold:List Bool→Nat→Int→Int
 | [],_,a=>a
 | b::l,k,a=>kFold l (k+1) (kStep a k b)
def kindL (t:Ty):List Bool:=[t.null,t.fls,t.tru,!t.nums.isEmpty,t.any||!t.texts.isEmpty,!t.arrays.isEmpty,!t.objects.isEmpty]
def kindsT (t:Ty):Int:=if t.all then 127 else kFold (kindL t) 0 0
theorem kindsT_never (t:Ty):decide (kindsT t=0)=never t:=by
 unfold kindsT never bare kindL
 generalize t.all=a,t.null=b0,t.fls=b1,t.tru=b2,t.nums.isEmpty=b3,t.any=b4,t.texts.isEmpty=b5,t.arrays.isEmpty=b6,t.objects.isEmpty=b7
 revert a b0 b1 b2 b3 b4 b5 b6 b7
 decide
set_option maxHeartbeats 4000000 in
theorem c_shape_Kinds (t:Ty):Ret prog M.F_shape_Kinds [.agg (cT t)] (.int .u8 (kindsT t)):=by
 refine Ret.go hmix h_shape_Kinds (by simp) fun hb w0 F0 hG=>?_
 unfold kindsT kindL
 cases ha:t.all
 ·simp[ha]
  intro v
  have ne:∀ {α:Type} (l:List α),decide (0<l.length)=!l.isEmpty:=fun l=>by cases l<;>simp
  simp only[ne]
  generalize t.null=b0,t.fls=b1,t.tru=b2,(!t.nums.isEmpty)=b3,(t.any||!t.texts.isEmpty)=b4,(!t.arrays.isEmpty)=b5,(!t.objects.isEmpty)=b6
  obtain⟨J,hJ⟩ : ∃ J:Nat→Int→Prop,J=fun k a=>(0≤a∧a≤255)∧kFold [b0,b1,b2,b3,b4,b5,b6] 0 0=kFold ([b0,b1,b2,b3,b4,b5,b6].drop k) k a:=⟨_,rfl⟩
  generalize hR:kFold [b0,b1,b2,b3,b4,b5,b6] 0 0=R at *
  refine XLoop.cnt hmix 7 (fun (k:Nat) (a:Int)=>⟨[(35,.int .i64 k),(34,.agg [.bool b0,.bool b1,.bool b2,.bool b3,.bool b4,.bool b5,.bool b6]),(3,.int .u8 a)],[]⟩) J 0 (by rw[hJ]; exact⟨by omega,by rw[← hR]; rfl⟩) (by simp) fun k a hk hj=>?_
  have hj' : (0≤a∧a≤255)∧R=kFold ([b0,b1,b2,b3,b4,b5,b6].drop k) k a:=by rw[hJ] at hj; exact hj
  obtain⟨⟨a1,a2⟩,hj'⟩:=hj'
  have hw:=wrap64 (n:=(k:Int)+1) (by omega) (by omega)
  by_cases g1:k<7
  ·have nxt:∀ (b:Bool) (r:List Bool),[b0,b1,b2,b3,b4,b5,b6].drop k=b::r→J (k+1) (kStep a k b):=fun b r e=>by
      rw[hJ]
      refine⟨?_,?_⟩
      ·unfold kStep
       split
       ·exact wrap8_bd _
       ·exact⟨a1,a2⟩
      ·rw[hj',← List.drop_drop,e]; rfl
   have hd:∀ b:Bool,[b0,b1,b2,b3,b4,b5,b6][k]? = some b→J (k+1) (kStep a k b):=fun b e=>by
    obtain⟨h1,h2⟩:=List.getElem?_eq_some_iff.1 e
    exact nxt b _ (by rw[List.drop_eq_getElem_cons h1,h2])
   have c1:k=0∨k=1∨k=2∨k=3∨k=4∨k=5∨k=6:=by omega
   rcases c1 with rfl|rfl|rfl|rfl|rfl|rfl|rfl
   ·have h:=hd b0 rfl
    have k1:=wrap64 (n:=1) (by omega) (by omega)
    simp
    refine XCut.go hmix ?_
    cases b0
    ·simp[kStep] at h
     simp[k1]
     exact h
    ·simp[kStep] at h
     simp[k1]
     exact h
   ·have h:=hd b1 rfl
    have k1:=wrap64 (n:=2) (by omega) (by omega)
    simp
    refine XCut.go hmix ?_
    cases b1
    ·simp[kStep] at h
     simp[k1]
     exact h
    ·simp[kStep] at h
     simp[k1]
     exact h
   ·have h:=hd b2 rfl
    have k1:=wrap64 (n:=3) (by omega) (by omega)
    simp
    refine XCut.go hmix ?_
    cases b2
    ·simp[kStep] at h
     simp[k1]
     exact h
    ·simp[kStep] at h
     simp[k1]
     exact h
   ·have h:=hd b3 rfl
    have k1:=wrap64 (n:=4) (by omega) (by omega)
    simp
    refine XCut.go hmix ?_
    cases b3
    ·simp[kStep] at h
     simp[k1]
     exact h
    ·simp[kStep] at h
     simp[k1]
     exact h
   ·have h:=hd b4 rfl
    have k1:=wrap64 (n:=5) (by omega) (by omega)
    simp
    refine XCut.go hmix ?_
    cases b4
    ·simp[kStep] at h
     simp[k1]
     exact h
    ·simp[kStep] at h
     simp[k1]
     exact h
   ·have h:=hd b5 rfl
    have k1:=wrap64 (n:=6) (by omega) (by omega)
    simp
    refine XCut.go hmix ?_
    cases b5
    ·simp[kStep] at h
     simp[k1]
     exact h
    ·simp[kStep] at h
     simp[k1]
     exact h
   ·have h:=hd b6 rfl
    have k1:=wrap64 (n:=7) (by omega) (by omega)
    simp
    refine XCut.go hmix ?_
    cases b6
    ·simp[kStep] at h
     simp[k1]
     exact h
    ·simp[kStep] at h
     simp[k1]
     exact h
  ·obtain rfl:k=7:=by omega
   have:R=a:=hj'
   simp[this]
 ·simp[ha]
end Go.Proofs.YtfilonnphgnplaaGreatDoor.Pv
set_option maxRecDepth 100000
namespace Go.Proofs.YtfilonnphgnplaaGreatDoor.Pv
open Go Go.Tidy
theorem c_below_never (t:Ty):Ret prog M.F_below_never [.agg (cT t)] (.bool (never t)):=by
 refine Ret.go hmix h_below_never (by simp) fun hb w0 F0 hG=>?_
 rw[← kindsT_never]
 simp
 intros
 refine XCall.ret (c_shape_Kinds t) ?_
 simp
def has120 (k:Nat):Bool:=k == 3||k == 4||k == 5||k == 6
theorem c_OfKinds_1 (k:Nat) (hk:k<7):Ret prog M.F_shape_OfKinds_1 [.int .i64 k,.ref [.int .u8 120]] (.bool (has120 k)):=by
 refine Ret.go hmix h_shape_OfKinds_1 (by simp) fun hb w0 F0 hG=>?_
 have c1:k=0∨k=1∨k=2∨k=3∨k=4∨k=5∨k=6:=by omega
 rcases c1 with rfl|rfl|rfl|rfl|rfl|rfl|rfl<;>simp[has120]<;>decide
def laid120:Ty:=.mk false false false false [⟨ByteArray.empty,ByteArray.empty⟩] true [] [.mk tEvery 0 (-1)] [.mk [] [] [] tEvery]
set_option maxHeartbeats 4000000 in
theorem c_OfKinds:Ret prog M.F_shape_OfKinds [.int .u8 120] (.agg (cT laid120)):=by
 refine Ret.go hmix h_shape_OfKinds (by simp) fun hb w0 F0 hG=>?_
 have kw:IntKind.u8.wrap ((120 % 2 ^ IntKind.u8.bits &&& 127 % 2 ^ IntKind.u8.bits:Nat):Int)=120:=by decide
 have h0:=c_OfKinds_1 0 (by decide)
 have h1:=c_OfKinds_1 1 (by decide)
 have h2:=c_OfKinds_1 2 (by decide)
 have h3:=c_OfKinds_1 3 (by decide)
 have h4:=c_OfKinds_1 4 (by decide)
 have h5:=c_OfKinds_1 5 (by decide)
 have h6:=c_OfKinds_1 6 (by decide)
 simp only[show has120 0=false by decide,show has120 1=false by decide,show has120 2=false by decide,show has120 3=true by decide,show has120 4=true by decide,show has120 5=true by decide,show has120 6=true by decide] at h0 h1 h2 h3 h4 h5 h6
 simp[kw]
 intro v1 v2
 refine XCall.ret (r:=.bool false) (by simpa using h0) ?_
 simp
 refine XCall.ret (r:=.bool false) (by simpa using h1) ?_
 simp
 refine XCall.ret (r:=.bool false) (by simpa using h2) ?_
 simp
 refine XCall.ret (r:=.bool true) (by simpa using h4) ?_
 simp
 intro v4
 refine XCut.go hmix ?_
 simp
 refine XCall.ret (r:=.bool true) (by simpa using h3) ?_
 simp
 intro v5
 refine XCut.go hmix ?_
 simp
 refine XCall.ret (r:=.bool true) (by simpa using h5) ?_
 simp
 refine XCall.ret c_shape_Every ?_
 simp
 intro v6
 refine XCut.go hmix ?_
 simp
 refine XCall.ret (r:=.bool true) (by simpa using h6) ?_
 simp
 refine XCall.ret c_shape_Every ?_
 simp[laid120,tEvery,encObj_eq]
 rfl
theorem laid_T {t:Ty} (h:t.all=true):laidT t=laidAll:=by simp[laidT,h]
theorem c_below_laid (t:Ty):Ret prog M.F_below_laid [.agg (cT t)] (.agg (cT (laidT t))):=by
 refine Ret.go hmix h_below_laid (by simp) fun hb w0 F0 hG=>?_
 cases ha:t.all
 ·simp[ha,laidT]
 ·rw[laid_T ha]
  simp[ha]
  intros
  refine XCall.ret c_OfKinds ?_
  simp[laid120,laidAll]
end Go.Proofs.YtfilonnphgnplaaGreatDoor.Pv
set_option maxRecDepth 100000
namespace Go.Proofs.YtfilonnphgnplaaGreatDoor.Pv
open Go Go.Tidy
theorem worth_le {a b:S} (ha:numB a=true) (hb:numB b=true):worthI a b=oInt (numCmp a b):=by simp[worthI,ha,hb]
theorem c_below_hollow (s:Span) (h1:boundB s.low=true) (h2:boundB s.high=true):Ret prog M.F_below_hollow [.agg (encSpan s)] (.bool (hollow s)):=by
 refine Ret.go hmix h_below_hollow (by simp) fun hb w0 F0 hG=>?_
 unfold hollow
 cases e1:sEmp s.low
 ·cases e2:sEmp s.high
  ·simp[e1,e2]
   intros
   refine XCall.ret (c_below_worth s.low s.high) ?_
   rw[worth_le (boundB_num h1 e1) (boundB_num h2 e2)]
   cases numCmp s.low s.high<;>simp[oInt,e1,e2]
  ·simp[e1,e2]
 ·simp[e1]
theorem spanIn_def (a b:Span):spanIn a b=(hollow a||((sEmp b.low||(!sEmp a.low&&(numCmp b.low a.low).isLE))&&(sEmp b.high||(!sEmp a.high&&(numCmp a.high b.high).isLE)))):=by
 unfold spanIn
 rw[numCmp_swap a.low b.low]
 cases numCmp a.low b.low<;>rfl
set_option maxHeartbeats 4000000 in
theorem c_below_Span (a b:Span) (a1:boundB a.low=true) (a2:boundB a.high=true) (b1:boundB b.low=true) (b2:boundB b.high=true):Ret prog M.F_below_Span [.agg (encSpan a),.agg (encSpan b)] (.bool (spanIn a b)):=by
 refine Ret.go hmix h_below_Span (by simp) fun hb w0 F0 hG=>?_
 rw[spanIn_def]
 have c1:=c_below_worth b.low a.low
 have c2:=c_below_worth a.high b.high
 simp
 intro v1 v2
 refine XCall.ret (c_below_hollow a a1 a2) ?_
 cases e0:hollow a
 ·have fin:∀ (st:St) (ks:List KF) (Q:Ex→St→Prop) (r:PV),True:=fun _ _ _ _=>trivial
  cases e1:sEmp b.low
  ·cases e2:sEmp a.low
   ·rw[worth_le (boundB_num b1 e1) (boundB_num a1 e2)] at c1
    simp[e1,e2]
    refine XCall.ret c1 ?_
    cases numCmp b.low a.low
    all_goals
      simp[oInt,e1,e2]
    all_goals
      cases e3:sEmp b.high
      ·cases e4:sEmp a.high
       ·rw[worth_le (boundB_num a2 e4) (boundB_num b2 e3)] at c2
        simp[e3,e4]
        refine XCall.ret c2 ?_
        cases numCmp a.high b.high<;>simp[oInt,e3,e4]
       ·simp[e3,e4]
      ·simp[e3]
   ·simp[e1,e2]
  ·cases e3:sEmp b.high
   ·cases e4:sEmp a.high
    ·rw[worth_le (boundB_num a2 e4) (boundB_num b2 e3)] at c2
     simp[e1,e3,e4]
     refine XCall.ret c2 ?_
     cases numCmp a.high b.high<;>simp[oInt,e1,e3,e4]
    ·simp[e1,e3,e4]
   ·simp[e1,e3]
 ·simp
theorem c_below_side_words (a b:Ty):Ret prog M.F_below_side_words [.agg (cT a),.agg (cT b)] (.bool ((!a.null||b.null)&&(!a.fls||b.fls)&&(!a.tru||b.tru))):=by
 refine Ret.go hmix h_below_side_words (by simp) fun hb w0 F0 hG=>?_
 cases e1:a.null<;>cases e2:a.fls<;>cases e3:a.tru<;>cases e4:b.null<;>cases e5:b.fls<;>simp[e1,e2,e3,e4,e5]
theorem c_below_side_nums (a b:Ty) (ha:∀ s∈a.nums,spanB s=true) (hb' : ∀ s∈b.nums,spanB s=true):Ret prog M.F_below_side_nums [.agg (cT a),.agg (cT b)] (.bool (numsIn a.nums b.nums)):=by
 refine Ret.go hmix h_below_side_nums (by simp) fun hb w0 F0 hG=>?_
 unfold numsIn
 cases ea:a.nums with
 | nil=>simp[ea]
 | cons x l =>
   have q:¬ ((l.length:Int)+1=0):=by omega
   have q2:(0:Int)<(l.length:Int)+1:=by omega
   cases eb:b.nums with
   | nil=>simp[ea,eb,q]
   | cons y m =>
     have h1:=spanB_iff.1 (ha x (by simp[ea]))
     have h2:=spanB_iff.1 (hb' y (by simp[eb]))
     have q' : ¬ ((m.length:Int)+1=0):=by omega
     have q3:(0:Int)<(m.length:Int)+1:=by omega
     simp[ea,eb,q,q',q2,q3]
     intros
     refine XDCall.ret (c_below_Span x y h1.1 h1.2.1 h2.1 h2.2.1) ?_
     simp[ea,eb,q,q',q2,q3]
theorem c_below_side_texts_1 (s:S) (b:Ty):Ret prog M.F_below_side_texts_1 [.str s,.ref (cT b)] (.bool (!b.texts.any fun u=>sEq u s)):=by
 refine Ret.go hmix h_below_side_texts_1 (by simp) fun hb w0 F0 hG=>?_
 simp
 refine XCall.ret (c_slices_Contains_string b.texts s) ?_
 simp
theorem c_below_side_texts (a b:Ty):Ret prog M.F_below_side_texts [.agg (cT a),.agg (cT b)] (.bool (textsIn a b)):=by
 refine Ret.go hmix h_below_side_texts (by simp) fun hb w0 F0 hG=>?_
 have hc:=c_slices_ContainsFunc_string a.texts M.F_below_side_texts_1 [.ref (cT b)] (fun s=>!b.texts.any fun u=>sEq u s) (by simp) (by simp) (by simp) (fun s _=>c_below_side_texts_1 s b)
 have hR:textsIn a b=(b.any||(!a.any&&!(a.texts.any fun s=>!b.texts.any fun u=>sEq u s))):=by
  unfold textsIn
  congr 2
  rw[List.not_any_eq_all_not]
  simp
 rw[hR]
 generalize (a.texts.any fun s=>!b.texts.any fun u=>sEq u s)=R at *
 cases e1:b.any
 ·cases e2:a.any
  ·simp[e1,e2]
   intros
   refine XCall.ret (r:=.bool R) (by simpa using hc) ?_
   simp
  ·simp[e1,e2]
 ·simp[e1]
end Go.Proofs.YtfilonnphgnplaaGreatDoor.Pv
set_option maxRecDepth 100000
namespace Go.Proofs.YtfilonnphgnplaaGreatDoor.Pv
open Go Go.Tidy
set_option maxHeartbeats 4000000 in
theorem c_below_field (o:Ob) (n:S) (h1:o.names.length=o.fields.length) (h2:o.names.length=o.must.length) (hs:SSs o.names):Ret prog M.F_below_field [.agg (cO o),.str n] (.tup [.agg (cT (fieldO o n).1),.bool (fieldO o n).2]):=by
 obtain⟨i,i1,i2,i3⟩:=low_ex o.names n hs
 have hc:=c_slices_BinarySearch_string o.names n i i1 i2 i3
 have hR:fieldO o n=if h:o.names[i]? = some n then (o.fields[i]'(by have:=(List.getElem?_eq_some_iff.1 h).1; omega),o.must[i]'(by have:=(List.getElem?_eq_some_iff.1 h).1; omega)) else (o.rest,false):=by
  split
  ·rename_i h
   obtain⟨hi,e⟩:=List.getElem?_eq_some_iff.1 h
   exact field_at h1 h2 hi hs e
  ·rename_i h
   exact field_no (low_no hs i2 i3 h)
 generalize fieldO o n=R at *
 refine Ret.go hmix h_below_field (by simp) fun hb w0 F0 hG=>?_
 simp
 intros
 refine XCall.ret hc ?_
 by_cases h:o.names[i]? = some n
 ·have hi:i<o.names.length:=(List.getElem?_eq_some_iff.1 h).1
  have g2:i<o.fields.length:=by omega
  have g3:i<o.must.length:=by omega
  rw[dif_pos h] at hR
  simp[h,g2,g3,hR]
 ·rw[dif_neg h] at hR
  simp[h,hR]
theorem FitT.ss {t:Ty} (h:FitT t) {o:Ob} (ho:o∈t.objects):SSs o.names:=by
 have:=formedT_spec h.1
 exact formedO_SS (this.2.2.2.2.2.2.2 o ho)
theorem c_below_names (a b:Ob) (hl:a.names.length+b.names.length≤68719476736):RetO prog M.F_below_names [.agg (cO a),.agg (cO b)] 1 ((a.names++b.names).map encStr):=by
 refine RetO.go hmix h_below_names (by simp) fun hb w0 F0 hG=>?_
 have hc:=c_slices_Clone_string false (a.names.map encStr) (by simp; omega)
 simp
 intros
 refine XDCall.retO hc ?_
 simp[hl]
 exact List.take_of_length_le (by simp)
set_option maxHeartbeats 4000000 in
theorem below_lies' (x y:Ob) (hl:x.names.length+y.names.length≤68719476736) (x1:x.names.length=x.fields.length) (x2:x.names.length=x.must.length) (y1:y.names.length=y.fields.length) (y2:y.names.length=y.must.length) (xs:SSs x.names) (ys:SSs y.names)
 (ih:∀ n,Ret prog M.F_below_Below [.agg (cT (fieldO x n).1),.agg (cT (fieldO y n).1)] (.bool (belT (fieldO y n).1 (fieldO x n).1))) (ihr:Ret prog M.F_below_Below [.agg (cT x.rest),.agg (cT y.rest)] (.bool (belT y.rest x.rest))) :
 Ret prog M.F_below_lies [.agg (cO x),.agg (cO y)] (.bool (belO y x)):=by
 refine Ret.go hmix h_below_lies (by simp) fun hb w0 F0 hG=>?_
 simp only[bndL,bndV,List.length_map,LIM,and_true] at hb
 rw[belO_def]
 have hnm:=c_below_names x y hl
 have hlN:(x.names++y.names).length≤68719476736:=by simpa using hl
 generalize x.names++y.names=N at *
 generalize hB:N.all (fieldIn y x)=B
 simp
 intro v1 v2
 refine XCall.retO hnm ?_
 intro v3 _
 simp
 obtain⟨J,hJ⟩ : ∃ J:Nat→Unit→Prop,J=fun k _=>AllTo (fieldIn y x) N k:=⟨_,rfl⟩
 refine XLoop.cnt hmix N.length (fun k _=>⟨[(15,.int .i64 k),(14,.int .i64 N.length),(13,.own (13,v3) 1 0 N.length false),(2,.ptr (2,v1) 12 0 0),(3,.ptr (3,v2) 12 0 0)],[((13,v3),some ⟨1,N.map encStr,false,false⟩),((3,v2),some ⟨12,[cO y],false,true⟩),((2,v1),some ⟨12,[cO x],false,true⟩)]⟩) J () (by rw[hJ]; exact .zero) (by simp[leR_refl]) fun k _ hk hj=>?_
 have hw:=wrap64 (n:=(k:Int)+1) (by omega) (by omega)
 have hj' : AllTo (fieldIn y x) N k:=by rw[hJ] at hj; exact hj
 by_cases g1:k<N.length
 ·simp[g1]
  refine XCall.ret (c_below_field x N[k] x1 x2 xs) ?_
  simp[g1]
  intros
  refine XCall.ret (c_below_field y N[k] y1 y2 ys) ?_
  have hs:fieldIn y x N[k]=((!(fieldO y N[k]).2||(fieldO x N[k]).2)&&belT (fieldO y N[k]).1 (fieldO x N[k]).1):=rfl
  have ih':=ih N[k]
  generalize fieldO y N[k]=fy at *
  generalize fieldO x N[k]=fx at *
  obtain⟨ty,my⟩:=fy
  obtain⟨tx,mx⟩:=fx
  simp only at hs ih' ⊢
  have no:fieldIn y x N[k]=false→B=false:=fun h=>hB ▸ all_not g1 h
  have yes:fieldIn y x N[k]=true→J (k+1) ():=fun h=>by rw[hJ]; exact hj'.step g1 h
  cases my
  ·simp
   intros
   refine XCall.ret ih' ?_
   cases hbt:belT ty tx<;>rw[hbt] at hs
   ·simp[no (by rw[hs]; simp)]
   ·simp[hw,leR_refl,g1]
    exact⟨(),yes (by rw[hs]; simp)⟩
  ·cases mx
   ·simp[no (by rw[hs]; simp)]
   ·simp
    intros
    refine XCall.ret ih' ?_
    cases hbt:belT ty tx<;>rw[hbt] at hs
    ·simp[no (by rw[hs]; simp)]
    ·simp[hw,leR_refl,g1]
     exact⟨(),yes (by rw[hs]; simp)⟩
 ·have hB1:B=true:=by rw[← hB]; exact hj'.all g1
  simp[g1]
  refine XCall.ret ihr ?_
  simp[hB1]
set_option maxHeartbeats 4000000 in
theorem side_arrays' (a b:Ty) (ih:∀ x∈a.arrays,∀ y∈b.arrays,Ret prog M.F_below_Below [.agg (cT x.item),.agg (cT y.item)] (.bool (belT y.item x.item))):Ret prog M.F_below_side_arrays [.agg (cT a),.agg (cT b)] (.bool (arrsIn a.arrays b.arrays)):=by
 refine Ret.go hmix h_below_side_arrays (by simp) fun hb w0 F0 hG=>?_
 clear hb
 generalize hA:a.arrays=la at *
 generalize hB:b.arrays=lb at *
 cases la with
 | nil=>simp[arrsIn,hA]
 | cons x la =>
   have na:¬ ((la.length:Int)+1=0):=by omega
   have na2:(0:Int)<(la.length:Int)+1:=by omega
   cases lb with
   | nil=>simp[arrsIn,hA,hB,na]
   | cons y lb =>
     have nb:¬ ((lb.length:Int)+1=0):=by omega
     have nb2:(0:Int)<(lb.length:Int)+1:=by omega
     have ih':=ih x (by simp) y (by simp)
     simp only[arrsIn,List.isEmpty_cons,Bool.false_or,arrIn]
     by_cases g1:x.min<y.min
     ·simp[hA,hB,na,nb,na2,nb2,g1]
     by_cases g2:0≤y.max
     ·by_cases g3:x.max<0
      ·simp[hA,hB,na,nb,na2,nb2,g1,g2,g3]
      by_cases g4:y.max<x.max
      ·simp[hA,hB,na,nb,na2,nb2,g1,g2,g3,g4]
      by_cases g5:x.max=0
      ·simp[hA,hB,na,nb,na2,nb2,g1,g2,g3,g4,g5]
      ·simp[hA,hB,na,nb,na2,nb2,g1,g2,g3,g4,g5]
       intros
       refine XCall.ret ih' ?_
       simp[g5]
     ·by_cases g5:x.max=0
      ·simp[hA,hB,na,nb,na2,nb2,g1,g2,g5]
      ·simp[hA,hB,na,nb,na2,nb2,g1,g2,g5]
       intros
       refine XCall.ret ih' ?_
       simp[g5]
theorem side_objects_1' (x y:Ob) (ih:Ret prog M.F_below_lies [.agg (cO x),.agg (cO y)] (.bool (belO y x))):Ret prog M.F_below_side_objects_1 [.agg (cO y),.ref (cO x)] (.bool (belO y x)):=by
 refine Ret.go hmix h_below_side_objects_1 (by simp) fun hb w0 F0 hG=>?_
 simp
 intros
 refine XCall.ret ih ?_
 simp
set_option maxHeartbeats 4000000 in
theorem side_objects' (a b:Ty) (ih:∀ x∈a.objects,∀ y∈b.objects,Ret prog M.F_below_lies [.agg (cO x),.agg (cO y)] (.bool (belO y x))):Ret prog M.F_below_side_objects [.agg (cT a),.agg (cT b)] (.bool (a.objects.all fun x=>b.objects.any fun y=>belO y x)):=by
 refine Ret.go hmix h_below_side_objects (by simp) fun hb w0 F0 hG=>?_
 simp only[bndL,bndV,List.length_map,LIM,and_true] at hb
 generalize hB:(a.objects.all fun x=>b.objects.any fun y=>belO y x)=B
 simp
 intro v1 v2
 obtain⟨J,hJ⟩ : ∃ J:Nat→Unit→Prop,J=fun k _=>AllTo (fun x=>b.objects.any fun y=>belO y x) a.objects k:=⟨_,rfl⟩
 refine XLoop.cnt hmix a.objects.length (fun k _=>⟨[(10,.int .i64 k),(9,.int .i64 a.objects.length),(8,.vec 12 false (a.objects.map encObj)),(2,.ptr (2,v1) 9 0 0),(3,.ptr (3,v2) 9 0 0)],[((3,v2),some ⟨9,[cT b],false,true⟩),((2,v1),some ⟨9,[cT a],false,true⟩)]⟩) J () (by rw[hJ]; exact .zero) (by simp) fun k _ hk hj=>?_
 have hw:=wrap64 (n:=(k:Int)+1) (by omega) (by omega)
 have hj' : AllTo (fun x=>b.objects.any fun y=>belO y x) a.objects k:=by rw[hJ] at hj; exact hj
 by_cases g1:k<a.objects.length
 ·have hm:a.objects[k]∈a.objects:=List.getElem_mem g1
  generalize ho:a.objects[k]=o at *
  have hc:=c_slices_ContainsFunc_Obj b.objects M.F_below_side_objects_1 [.ref (cO o)] (fun y=>belO y o) (by simp) (by simp) (by simp) (fun y hy=>side_objects_1' o y (ih o hm y hy))
  simp[g1,ho]
  intros
  cases e:b.objects.any fun y=>belO y o
  ·rw[e] at hc
   refine XCall.ret (r:=.bool false) (by simpa using hc) ?_
   have:B=false:=by rw[← hB]; exact all_not g1 (by rw[ho]; exact e)
   simp[this]
  ·rw[e] at hc
   refine XCall.ret (r:=.bool true) (by simpa using hc) ?_
   simp[hw,g1]
   exact⟨(),by rw[hJ]; exact hj'.step g1 (by rw[ho]; exact e)⟩
 ·have:B=true:=by rw[← hB]; exact hj'.all g1
  simp[g1,this]
set_option maxHeartbeats 4000000 in
theorem below_step' (x y:Ty) (fx:FitT x) (fy:FitT y) (ih:∀ y' : Ty,SizeOf.sizeOf y' < SizeOf.sizeOf y→FitT y'→∀ x',FitT x'→Ret prog M.F_below_Below [.agg (cT x'),.agg (cT y')] (.bool (belT y' x'))):Ret prog M.F_below_Below [.agg (cT x),.agg (cT y)] (.bool (belT y x)):=by
 have hB:=belT_def y x
 generalize belT y x=B at *
 have r0:=c_below_laid x
 have fz:=fx.laid
 generalize laidT x=z at *
 have s1:=(formedT_spec fz.1).2.2.2.2.1
 have s2:=(formedT_spec fy.1).2.2.2.2.1
 have q1:=c_below_side_words z y
 have q2:=c_below_side_nums z y s1 s2
 have q3:=c_below_side_texts z y
 have q4:=side_arrays' z y fun a ha b hb'=>ih b.item (sz_item hb') (fy.item hb') a.item (fz.item ha)
 have q5:=side_objects' z y fun a ha b hb'=>by
  obtain⟨a1,a2,a3⟩:=fz.names ha
  obtain⟨b1,b2,b3⟩:=fy.names hb'
  refine below_lies' a b (by omega) a2 a3 b2 b3 ((fz.ss ha)) (fy.ss hb') (fun n=>?_) (ih b.rest (sz_rest hb') (fy.rest hb') a.rest (fz.rest ha))
  have fa:FitT (fieldO a n).1:=by
   rcases fieldO_mem a n with h|h
   ·exact fz.field ha h
   ·rw[h]; exact fz.rest ha
  rcases fieldO_mem b n with h|h
  ·exact ih _ (sz_field hb' h) (fy.field hb' h) _ fa
  ·rw[h]; exact ih _ (sz_rest hb') (fy.rest hb') _ fa
 refine Ret.go hmix h_below_Below (by simp) fun hb w0 F0 hG=>?_
 simp
 intro v1 v2
 refine XCall.ret (c_below_never x) ?_
 cases e1:never x
 ·cases e2:y.all
  ·rw[e1,e2,Bool.false_or,Bool.false_or] at hB
   have w1:IntKind.i64.wrap 1=1:=wrap64 (by omega) (by omega)
   have w2:IntKind.i64.wrap 2=2:=wrap64 (by omega) (by omega)
   have w3:IntKind.i64.wrap 3=3:=wrap64 (by omega) (by omega)
   have w4:IntKind.i64.wrap 4=4:=wrap64 (by omega) (by omega)
   have w5:IntKind.i64.wrap 5=5:=wrap64 (by omega) (by omega)
   simp[e2]
   refine XLoop.rnd hmix (.s (.s (.s (.s (.s (.s .z)))))) ?_
   simp only[XRnd_s]
   simp
   intros
   refine XDCall.ret r0 ?_
   simp
   refine XDCall.ret q1 ?_
   cases c1:((!z.null||y.null)&&(!z.fls||y.fls)&&(!z.tru||y.tru))<;>rw[c1] at hB
   ·simp[hB]
   simp[w1,XRnd_s]
   intros
   refine XDCall.ret r0 ?_
   simp
   refine XDCall.ret q2 ?_
   cases c2:numsIn z.nums y.nums<;>rw[c2] at hB
   ·simp[hB]
   simp[w2,XRnd_s]
   intros
   refine XDCall.ret r0 ?_
   simp
   refine XDCall.ret q3 ?_
   cases c3:textsIn z y<;>rw[c3] at hB
   ·simp[hB]
   simp[w3,XRnd_s]
   intros
   refine XDCall.ret r0 ?_
   simp
   refine XDCall.ret q4 ?_
   cases c4:arrsIn z.arrays y.arrays<;>rw[c4] at hB
   ·simp[hB]
   simp[w4,XRnd_s]
   intros
   refine XDCall.ret r0 ?_
   simp
   refine XDCall.ret q5 ?_
   cases c5:(z.objects.all fun x=>y.objects.any fun p=>belO p x)<;>rw[c5] at hB
   ·simp[hB]
   simp[w5,XRnd_s,hB]
  ·simp[e2,hB,e1]
 ·simp[hB,e1]
theorem c_below_Below (x y:Ty) (fx:FitT x) (fy:FitT y):Ret prog M.F_below_Below [.agg (cT x),.agg (cT y)] (.bool (belT y x)):=by
 induction hn:SizeOf.sizeOf y using Nat.strongRecOn generalizing x y with
 | _ n ih =>
   subst hn
   exact below_step' x y fx fy fun y' h fy' x' fx'=>ih _ h x' y' fx' fy' rfl
end Go.Proofs.YtfilonnphgnplaaGreatDoor.Pv
set_option maxRecDepth 100000
namespace Go.Proofs.YtfilonnphgnplaaGreatDoor.Pv
open Go Go.Tidy
set_option maxHeartbeats 4000000 in
theorem tidy_arrays_step (a b:List Arr) (hl:a.length+b.length≤34359738368) (hT:∀ x∈a,∀ y∈b,Ret prog M.F_tidy_together [.vec 9 false [encTy x.item,encTy y.item]] (.agg (cT (sumT x.item y.item)))) :
 Ret prog M.F_tidy_arrays [.vec 11 false (a.map encArr),.vec 11 false (b.map encArr)] (.vec 11 false ((sumAs a b).map encArr)):=by
 refine Ret.go hmix h_tidy_arrays (by simp) fun hb w0 F0 hG=>?_
 have hc:=c_slices_Concat_Arr false false (a.map encArr) (b.map encArr) (by simpa using hl)
 cases a with
 | nil =>
   simp
   intros
   refine XCall.retO (by simpa using hc) ?_
   intro v hv
   simp[sumAs_nil_l]
 | cons x a =>
   cases b with
   | nil =>
     simp
     intros
     refine XCall.retO (by simpa using hc) ?_
     intro v hv
     simp[sumAs_nil_r]
   | cons y b =>
     have hT:=hT x (by simp) y (by simp)
     have q:¬ ((a.length:Int)+1=0):=by omega
     have q' : ¬ ((b.length:Int)+1=0):=by omega
     have q2:(0:Int)<(a.length:Int)+1:=by omega
     have q3:(0:Int)<(b.length:Int)+1:=by omega
     have e:sumAs (x::a) (y::b)=[sumA x y]:=by simp[sumAs]
     rw[e,sumA_def]
     generalize sumT x.item y.item=z at *
     simp[q,q',q2,q3]
     intros
     refine XDCall.ret (r:=.agg (cT z)) (by simpa using hT) ?_
     simp[q,q',q2,q3]
     refine XCut.go hmix ?_
     by_cases g1:x.max<0
     ·simp[q,q',q2,q3,g1]
     ·by_cases g2:y.max<0
      ·simp[q,q',q2,q3,g1,g2]
      ·simp[q,q',q2,q3,g1,g2]
def accT (l:List Ty) (k:Nat):Ty :=
 .mk false ((l.take k).any Ty.null) ((l.take k).any Ty.fls) ((l.take k).any Ty.tru) ((l.take k).foldl (fun a t=>sumN a t.nums) []) ((l.take k).any Ty.any) ((l.take k).flatMap Ty.texts) ((l.take k).foldl (fun a t=>sumAs a t.arrays) []) ((l.take k).flatMap Ty.objects)
theorem accT_succ (l:List Ty) {k:Nat} (hk:k<l.length):accT l (k+1)=.mk false ((accT l k).null||l[k].null) ((accT l k).fls||l[k].fls) ((accT l k).tru||l[k].tru) (sumN (accT l k).nums l[k].nums) ((accT l k).any||l[k].any) ((accT l k).texts++l[k].texts) (sumAs (accT l k).arrays l[k].arrays) ((accT l k).objects++l[k].objects):=by
 unfold accT
 have e:=List.take_succ_eq_append_getElem hk
 rw[e]
 simp only[List.any_append,List.foldl_append,List.flatMap_append,List.any_cons,List.any_nil,List.foldl_cons,List.foldl_nil,List.flatMap_cons,List.flatMap_nil,List.append_nil,Bool.or_false,Ty.null_mk,Ty.fls_mk,Ty.tru_mk,Ty.nums_mk,Ty.any_mk,Ty.texts_mk,Ty.arrays_mk,Ty.objects_mk]
theorem accT_zero (l:List Ty):accT l 0=tNever:=by simp[accT,tNever]
def rowT (g:Ty) (tx:PV):List PV:=[.bool false,.bool g.null,.bool g.fls,.bool g.tru,.vec 2 false (g.nums.map encSpan),.bool g.any,tx,.vec 11 false (g.arrays.map encArr),.vec 12 false (g.objects.map encObj)]
set_option maxHeartbeats 4000000 in
theorem together_step (l:List Ty) (hf:∀ t∈l,formedT t=true) (hn:∀ k,k<l.length→((accT l k).nums).length+((l[k]?.getD tNever).nums).length≤34359738368)
 (ht:∀ k,k<l.length→((accT l k).texts).length+((l[k]?.getD tNever).texts).length≤34359738368) (ho:∀ k,k<l.length→((accT l k).objects).length+((l[k]?.getD tNever).objects).length≤34359738368)
 (hsp:∀ k,∀ s∈(accT l k).nums,spanB s=true) (hS:SortsS prog M.F_slices_Sort_string) (hC:CompactsS prog M.F_slices_Compact_string)
 (hA:∀ k (hk:k<l.length),Ret prog M.F_tidy_arrays [.vec 11 false ((accT l k).arrays.map encArr),.vec 11 false (l[k].arrays.map encArr)] (.vec 11 false ((sumAs (accT l k).arrays l[k].arrays).map encArr))) :
 Ret prog M.F_tidy_together [.vec 9 false (l.map encTy)] (.agg (cT (togetherP l))):=by
 refine Ret.go hmix h_tidy_together (by simp) fun hb w0 F0 hG=>?_
 simp only[bndL,bndV,List.length_map,LIM,and_true] at hb
 generalize hR:togetherP l=R
 simp
 intro v2 v3
 obtain⟨J,hJ⟩ : ∃ J:Nat→Ty→Prop,J=fun k g=>g=accT l k∧(l.take k).any Ty.all=false:=⟨_,rfl⟩
 refine XLoop.cntR hmix [(7000003,1,1006)] rfl l.length (fun v k (g:Ty)=>⟨[(9,.int .i64 k),(8,.int .i64 l.length),(7,.vec 9 false (l.map encTy)),(3,.ptr (3,v3) 9 0 0),(2,.ptr (2,v2) 9 0 0)],
  [((3,v3),some ⟨9,[rowT g (.own (1006,v) 1 0 g.texts.length false)],false,true⟩),((1006,v),some ⟨1,g.texts.map encStr,false,false⟩),((2,v2),some ⟨9,[M.z1],false,true⟩)]⟩) J tNever (by rw[hJ]; exact⟨(accT_zero l).symm,by simp⟩) (fun v=>by simp[rowT,tNever]) fun v k g hv hk hj=>?_
 have hw:=wrap64 (n:=(k:Int)+1) (by omega) (by omega)
 have hj' : g=accT l k∧(l.take k).any Ty.all=false:=by rw[hJ] at hj; exact hj
 by_cases h1:k<l.length
 ·have hlk:l[k]?.getD tNever=l[k]:=by simp[h1]
  have a1:=hn k h1
  have a2:=ht k h1
  have a3:=ho k h1
  have a4:=hsp k
  have a5:=hA k h1
  have a6:∀ s∈l[k].nums,spanB s=true:=(formedT_spec (hf _ (List.getElem_mem h1))).2.2.2.2.1
  have hs:=accT_succ l h1
  rw[hlk] at a1 a2 a3
  rw[← hj'.1] at a1 a2 a3 a4 a5 hs
  have ha0:(l.take (k+1)).any Ty.all=l[k].all:=by
   rw[List.take_succ_eq_append_getElem h1,List.any_append,hj'.2]; simp
  generalize htk:l[k]=t at *
  have c1:=c_tidy_spans g.nums t.nums a4 a6 a1
  have c2:=c_slices_Concat_string false false (g.texts.map encStr) (t.texts.map encStr) (by simpa using a2)
  have c3:=c_slices_Concat_Obj false false (g.objects.map encObj) (t.objects.map encObj) (by simpa using a3)
  cases hal:t.all
  ·simp[h1,rowT,htk,hal]
   intro v5
   refine XCall.ret c1 ?_
   simp
   intro v54
   refine XCall.retO (by simpa using c2) ?_
   intro v55 _
   simp
   refine XCall.ret a5 ?_
   simp
   intro v67
   refine XCall.retO (by simpa using c3) ?_
   intro v68 _
   simp[hw,h1]
   refine⟨.mk false (g.null||t.null) (g.fls||t.fls) (g.tru||t.tru) (sumN g.nums t.nums) (g.any||t.any) (g.texts++t.texts) (sumAs g.arrays t.arrays) (g.objects++t.objects),?_,?_⟩
   ·rw[hJ]; exact⟨hs.symm,by rw[ha0,hal]⟩
   ·intro v1
    have e:(List.map encObj g.objects++List.map encObj t.objects).take (g.objects.length+t.objects.length)=List.map encObj g.objects++List.map encObj t.objects:=List.take_of_length_le (by simp)
    refine⟨⟨rfl,rfl,rfl,rfl,rfl,?_,rfl,?_⟩,?_⟩
    ·show _=(g.texts++t.texts).length
     simp
    ·rw[e]
     show List.map encObj (g.objects++t.objects)=_
     simp
    ·show leR _ _ (List.map encStr (g.texts++t.texts))
     rw[List.map_append]
     exact leR_refl _ _
  ·have hRe:R=tEvery:=by
      rw[← hR]
      unfold togetherP
      rw[if_pos]
      rw[List.any_eq_true]
      exact⟨t,htk ▸ List.getElem_mem h1,hal⟩
   simp[h1,rowT,htk,hal]
   intros
   refine XCall.ret c_shape_Every ?_
   simp[hRe]
 ·have hk2:k=l.length:=by omega
  have hg:g=accT l l.length:=by rw[← hk2]; exact hj'.1
  have hall:l.any Ty.all=false:=by have:=hj'.2; rwa [hk2,List.take_length] at this
  have hRg:R=.mk false g.null g.fls g.tru g.nums g.any (if g.any then [] else setC sCmp g.texts) g.arrays g.objects:=by
   rw[← hR,hg]
   unfold togetherP accT
   rw[if_neg (by simp[hall])]
   simp
  simp[h1,rowT]
  refine XCall.retH (sort_retH hS (l:=g.texts) (g:=(1006,v)) (by simp[rowS])) ?_
  simp[putS]
  have hcc:=fun h e=>compact_retH (h:=h) hC (l:=sortS g.texts) (g:=(1006,v)) e
  simp only[sortS_len] at hcc
  refine XCall.retH (hcc _ (by simp)) ?_
  simp[putS]
  have hfin:((compactR (sortS g.texts)).map rowS).take (compactS (sortS g.texts)).length=(setC sCmp g.texts).map encStr:=by
   rw[← compact_sort]
   unfold compactR
   rw[List.map_append,List.take_left' (by simp)]
   rfl
  have hle:(compactS (sortS g.texts)).length≤(compactR (sortS g.texts)).length:=by unfold compactR; simp
  generalize (compactS (sortS g.texts)).length=m at *
  generalize hrows:(compactR (sortS g.texts)).map rowS=rows at *
  have hlr:m≤rows.length:=by rw[← hrows]; simpa using hle
  refine XCut.go hmix ?_
  cases hany:g.any
  ·rw[hany] at hRg
   simp[hany,hRg,hfin,hlr]
  ·rw[hany] at hRg
   simp[hany,hRg,hfin,hlr]
end Go.Proofs.YtfilonnphgnplaaGreatDoor.Pv
set_option maxRecDepth 100000
namespace Go.Proofs.YtfilonnphgnplaaGreatDoor.Pv
open Go Go.Tidy
def okA (NM:List S) (n m:Nat) (x:Arr):Prop:=formedA x=true∧heightT x.item≤n∧bdT NM m x.item
theorem okA_sum {NM:List S} {n m k:Nat} {a b:List Arr} (ha:∀ x∈a,okA NM n m x) (hb:∀ x∈b,okA NM n k x):∀ x∈sumAs a b,okA NM n (m+k) x:=by
 have hF:=formed_sumAs a b (fun x hx=>(ha x hx).1) (fun x hx=>(hb x hx).1)
 intro x hx
 refine⟨hF x hx,?_⟩
 cases a with
 | nil =>
   rw[sumAs_nil_l] at hx
   exact⟨(hb x hx).2.1,bd_mono (by omega) _ (hb x hx).2.2⟩
 | cons a0 a =>
   cases b with
   | nil =>
     rw[sumAs_nil_r] at hx
     exact⟨(ha x hx).2.1,bd_mono (by omega) _ (ha x hx).2.2⟩
   | cons b0 b =>
     have e:sumAs (a0::a) (b0::b)=[sumA a0 b0]:=by simp[sumAs]
     rw[e,List.mem_singleton] at hx
     subst hx
     have h1:=ha a0 (by simp)
     have h2:=hb b0 (by simp)
     rw[sumA_def]
     exact⟨height_sumT n _ _ h1.2.1 h2.2.1,bd_sum h1.2.2 h2.2.2⟩
theorem ok_types {NM:List S} {n m:Nat} {t:Ty} (hf:formedT t=true) (hn:heightT t≤n+1) (hb:bdT NM m t):∀ x∈t.arrays,okA NM n m x:=fun x hx =>
 ⟨(formedT_spec hf).2.2.2.2.2.2.1 x hx,(height_le_succ.1 hn).1 x hx,(bdT_iff.1 hb).2.2.1 x hx⟩
def okW (NM:List S) (n:Nat) (ws:List (Nat × Ty)):Prop:=∀ p∈ws,formedT p.2=true∧heightT p.2≤n∧bdT NM p.1 p.2
def sumW (ws:List (Nat × Ty)):Nat:=(ws.map (·.1)).sum
theorem fold_okA {NM:List S} {n:Nat}:∀ (ws:List (Nat × Ty)) (acc:List Arr) (m:Nat),okW NM (n+1) ws→(∀ x∈acc,okA NM n m x) →
 ∀ x∈(ws.map (·.2)).foldl (fun a t=>sumAs a t.arrays) acc,okA NM n (m+sumW ws) x
 | [],acc,m,_,ha=>fun x hx=>by simpa[sumW] using ha x hx
 | (k,t)::ws,acc,m,hw,ha=>by
   have h0:=hw (k,t) (by simp)
   intro x hx
   have:=fold_okA ws (sumAs acc t.arrays) (m+k) (fun p hp=>hw p (by simp[hp])) (okA_sum ha (ok_types h0.1 h0.2.1 h0.2.2)) x (by simpa using hx)
   have e:m+k+sumW ws=m+sumW ((k,t)::ws):=by simp[sumW]; omega
   rwa [e] at this
theorem fold_nums:∀ (l:List Ty) (acc:List Span),(∀ t∈l,formedT t=true)→(∀ s∈acc,spanB s=true)→acc.length≤1 →
 (∀ s∈l.foldl (fun a t=>sumN a t.nums) acc,spanB s=true)∧(l.foldl (fun a t=>sumN a t.nums) acc).length≤1
 | [],acc,_,ha,hb=>⟨ha,hb⟩
 | t::l,acc,h,ha,hb=>by
   have hs:=formedT_spec (h t (by simp))
   exact fold_nums l (sumN acc t.nums) (fun x hx=>h x (by simp[hx])) (formed_sumN ha hs.2.2.2.2.1) (len_sumN hb hs.2.2.2.1)
theorem fold_arrs:∀ (l:List Ty) (acc:List Arr),(∀ t∈l,formedT t=true)→acc.length≤1→(l.foldl (fun a t=>sumAs a t.arrays) acc).length≤1
 | [],acc,_,hb=>hb
 | t::l,acc,h,hb=>fold_arrs l (sumAs acc t.arrays) (fun x hx=>h x (by simp[hx])) (len_sumAs _ _ hb (formedT_spec (h t (by simp))).2.2.2.2.2.1)
theorem flat_texts {NM:List S} {n:Nat}:∀ (ws:List (Nat × Ty)),okW NM n ws→((ws.map (·.2)).flatMap Ty.texts).length≤4*sumW ws∧((ws.map (·.2)).flatMap Ty.objects).length≤sumW ws
 | [],_=>by simp[sumW]
 | (k,t)::ws,hw=>by
   have h0:=bdT_iff.1 (hw (k,t) (by simp)).2.2
   have:=flat_texts ws fun p hp=>hw p (by simp[hp])
   simp only[List.map_cons,List.flatMap_cons,List.length_append,sumW,List.sum_cons] at *
   omega
theorem sumW_take (ws:List (Nat × Ty)) {k:Nat} (hk:k<ws.length):sumW (ws.take k)+ws[k].1≤sumW ws:=by
 have e:sumW (ws.take (k+1))=sumW (ws.take k)+ws[k].1:=by
  have e0:=List.take_succ_eq_append_getElem hk
  rw[sumW,e0,List.map_append,List.sum_append]
  rfl
 have:sumW ws=sumW (ws.take (k+1))+sumW (ws.drop (k+1)):=by
  simp only[sumW]
  rw[← List.sum_append,← List.map_append,List.take_append_drop]
 omega
theorem okW_take {NM:List S} {n:Nat} {ws:List (Nat × Ty)} (h:okW NM n ws) (k:Nat):okW NM n (ws.take k):=fun p hp=>h p (List.mem_of_mem_take hp)
set_option maxHeartbeats 1000000 in
theorem together_ws (hS:SortsS prog M.F_slices_Sort_string) (hC:CompactsS prog M.F_slices_Compact_string) (NM:List S) (n:Nat) (ws:List (Nat × Ty)) (hw:okW NM (n+1) ws) (hB:sumW ws≤4294967296)
 (ih:∀ ws' : List (Nat × Ty),okW NM n ws'→sumW ws'≤4294967296→(∃ p∈ws,p.2.arrays≠[])→Ret prog M.F_tidy_together [.vec 9 false ((ws'.map (·.2)).map encTy)] (.agg (cT (togetherP (ws'.map (·.2)))))) :
 Ret prog M.F_tidy_together [.vec 9 false ((ws.map (·.2)).map encTy)] (.agg (cT (togetherP (ws.map (·.2))))):=by
 have hlen:(ws.map (·.2)).length=ws.length:=by simp
 have htk:∀ k,(ws.map (·.2)).take k=(ws.take k).map (·.2):=fun k=>by rw[List.map_take]
 have hget:∀ k (hk:k<ws.length),(ws.map (·.2))[k]?.getD tNever=ws[k].2:=fun k hk=>by simp[hk]
 have hget' : ∀ k (hk:k<(ws.map (·.2)).length),(ws.map (·.2))[k]=(ws[k]'(by simpa using hk)).2:=fun k hk=>by simp
 have hfl:∀ t∈ws.map (·.2),formedT t=true:=fun t ht=>by
  obtain⟨p,hp,rfl⟩:=List.mem_map.1 ht
  exact (hw p hp).1
 have hft:∀ k,∀ t∈(ws.map (·.2)).take k,formedT t=true:=fun k t ht=>hfl t (List.mem_of_mem_take ht)
 refine together_step _ hfl (fun k hk=>?_) (fun k hk=>?_) (fun k hk=>?_) (fun k=>?_) hS hC (fun k hk=>?_)
 ·have hk' : k<ws.length:=by simpa using hk
  rw[hget k hk']
  have h1:=(fold_nums _ [] (hft k) (by simp) (by simp)).2
  have h2:=(formedT_spec (hw _ (List.getElem_mem hk')).1).2.2.2.1
  simp only[accT,Ty.nums_mk]
  omega
 ·have hk' : k<ws.length:=by simpa using hk
  rw[hget k hk']
  have h1:=(flat_texts _ (okW_take hw k)).1
  have h2:=(bdT_iff.1 (hw _ (List.getElem_mem hk')).2.2).1
  have h3:=sumW_take ws hk'
  simp only[accT,Ty.texts_mk,htk]
  omega
 ·have hk' : k<ws.length:=by simpa using hk
  rw[hget k hk']
  have h1:=(flat_texts _ (okW_take hw k)).2
  have h2:=(bdT_iff.1 (hw _ (List.getElem_mem hk')).2.2).2.1
  have h3:=sumW_take ws hk'
  simp only[accT,Ty.objects_mk,htk]
  omega
 ·exact (fold_nums _ [] (hft k) (by simp) (by simp)).1
 ·have hk' : k<ws.length:=by simpa using hk
  rw[hget' k hk]
  have h0:=hw _ (List.getElem_mem hk')
  have h3:=sumW_take ws hk'
  refine tidy_arrays_step _ _ ?_ fun x hx y hy=>?_
  ·have h1:=fold_arrs _ [] (hft k) (by simp)
   have h2:=(formedT_spec h0.1).2.2.2.2.2.1
   simp only[accT,Ty.arrays_mk]
   omega
  ·simp only[accT,Ty.arrays_mk,htk] at hx
   have hx':=fold_okA (ws.take k) [] 0 (okW_take hw k) (by simp) x hx
   rw[Nat.zero_add] at hx'
   have hy':=ok_types h0.1 h0.2.1 h0.2.2 y hy
   have fx:=(formedA_spec hx'.1).2.2.2.1
   have fy:=(formedA_spec hy'.1).2.2.2.1
   have:=ih [(sumW (ws.take k),x.item),(ws[k].1,y.item)] (fun p hp=>by
    simp only[List.mem_cons,List.not_mem_nil,or_false] at hp
    rcases hp with rfl|rfl
    ·exact⟨fx,hx'.2.1,hx'.2.2⟩
    ·exact⟨fy,hy'.2.1,hy'.2.2⟩) (by show sumW (ws.take k)+(ws[k].1+0)≤_; omega) ⟨_,List.getElem_mem hk',fun e=>by rw[e] at hy; cases hy⟩
   simp only[List.map_cons,List.map_nil] at this
   rwa [together_eq _ (fun t ht=>by
    simp only[List.mem_cons,List.not_mem_nil,or_false] at ht
    rcases ht with rfl|rfl
    ·exact fx
    ·exact fy),sumL_two fx] at this
theorem together_weighed (hS:SortsS prog M.F_slices_Sort_string) (hC:CompactsS prog M.F_slices_Compact_string) (NM:List S):∀ (n:Nat) (ws:List (Nat × Ty)),okW NM n ws→sumW ws≤4294967296 →
 Ret prog M.F_tidy_together [.vec 9 false ((ws.map (·.2)).map encTy)] (.agg (cT (togetherP (ws.map (·.2))))):=by
 intro n
 induction n with
 | zero =>
   intro ws hw hB
   refine together_ws hS hC NM 0 ws (fun p hp=>⟨(hw p hp).1,by have:=(hw p hp).2.1; omega,(hw p hp).2.2⟩) hB fun ws' _ _ ⟨p,hp,hne⟩=>?_
   exact absurd (height_le_zero.1 (hw p hp).2.1).1 hne
 | succ n ih =>
   intro ws hw hB
   exact together_ws hS hC NM n ws hw hB fun ws' h1 h2 _=>ih ws' h1 h2
theorem c_tidy_together (hS:SortsS prog M.F_slices_Sort_string) (hC:CompactsS prog M.F_slices_Compact_string) (NM:List S) (m:Nat) (l:List Ty) (hf:∀ t∈l,formedT t=true) (hb:∀ t∈l,bdT NM m t) (hB:l.length*m≤4294967296) :
 Ret prog M.F_tidy_together [.vec 9 false (l.map encTy)] (.agg (cT (sumL l))):=by
 have hn:∃ n,∀ t∈l,heightT t≤n:=by
  clear hB hf hb
  induction l with
  | nil=>exact⟨0,by simp⟩
  | cons t l ih =>
    obtain⟨n,hn⟩:=ih
    exact⟨max n (heightT t),fun x hx=>by
     rcases List.mem_cons.1 hx with rfl|hx
     ·omega
     ·have:=hn x hx; omega⟩
 obtain⟨n,hn⟩:=hn
 have e:(l.map fun t=>(m,t)).map (·.2)=l:=by simp[Function.comp_def]
 have e2:sumW (l.map fun t=>(m,t))=l.length*m:=by
  unfold sumW
  rw[List.map_map]
  clear e hB hf hb hn
  induction l with
  | nil=>simp
  | cons t l ih=>simp only[List.map_cons,List.sum_cons,ih,List.length_cons,Function.comp]; rw[Nat.add_mul]; omega
 have:=together_weighed hS hC NM n (l.map fun t=>(m,t)) (fun p hp=>by
  obtain⟨t,ht,rfl⟩:=List.mem_map.1 hp
  exact⟨hf t ht,hn t ht,hb t ht⟩) (by omega)
 rw[e] at this
 rwa [together_eq l hf] at this
end Go.Proofs.YtfilonnphgnplaaGreatDoor.Pv
namespace Go.Proofs.YtfilonnphgnplaaGreatDoor.Pv
open Go Go.Tidy
theorem sorts_ok:SortsS prog M.F_slices_Sort_string :=
 ⟨by kernel_rfl,fun blk off cap ss w hH hblk hsz=>AnyM.slices_Sort_string Tryz.sortA blk off cap ss w hH hblk hsz,fun p cap w=>AnyM.slices_Sort_string_none Tryz.sortA p cap w⟩
theorem compacts_ok:CompactsS prog M.F_slices_Compact_string :=
 ⟨by kernel_rfl,fun blk off cap zs w hH hsz hcap=>AnyG.slices_Compact_string Tryz.compactA blk off cap zs w hH hsz hcap,fun a cap w=>AnyG.slices_Compact_string_empty Tryz.compactA a cap w⟩
end Go.Proofs.YtfilonnphgnplaaGreatDoor.Pv
set_option maxRecDepth 100000
namespace Go.Proofs.YtfilonnphgnplaaGreatDoor.Pv
open Go Go.Tidy
set_option maxHeartbeats 4000000 in
theorem c_tidy_spare (o:Ob) (ho:formedO o=true) (hn:o.names.length≤34359738368):Ret prog M.F_tidy_spare [.agg (cO o)] (.agg (cO (spareO o))):=by
 refine Ret.go hmix h_tidy_spare (by simp) fun hb w0 F0 hG=>?_
 obtain⟨o1,o2,o3,o4,o5,o6⟩:=formedO_spec ho
 have hR:spareO o=ofTrip ((tripO o).filter fun p=>p.2.2||!sameT p.2.1 o.rest) o.rest:=rfl
 generalize spareO o=R at *
 have hT:=trip_len o1 o2
 simp
 intro v1 v2 v3
 obtain⟨J,hJ⟩ : ∃ J:Nat→List (S × Ty × Bool)→Prop,J=fun k l=>l=((tripO o).take k).filter fun p=>p.2.2||!sameT p.2.1 o.rest:=⟨_,rfl⟩
 refine XLoop.cntR hmix [(1000003,1,1000),(2000003,9,1001),(3000003,1,1002)] rfl o.names.length (fun v k l=>⟨[(12,.int .i64 k),(11,.int .i64 o.names.length),(10,.vec 1 false (o.names.map encStr)),(3,.ptr (3,v3) 12 0 0),(2,.ptr (2,v2) 12 0 0),(1,.ptr (1,v1) 12 0 0)],
  [((3,v3),some ⟨12,[oneC (.own (1000,v) 1 0 l.length false) (.own (1001,v) 9 0 l.length false) (.own (1002,v) 1 0 l.length false) o.rest],false,true⟩),((1000,v),some ⟨1,tN l,false,false⟩),((1001,v),some ⟨9,tF l,false,false⟩),((1002,v),some ⟨1,tM l,false,false⟩),((2,v2),some ⟨12,[M.z4],false,true⟩),((1,v1),some ⟨12,[cO o],false,true⟩)]⟩) J [] (by rw[hJ]; rfl) (by simp) fun v k l _ hk hj=>?_
 have hw:=wrap64 (n:=(k:Int)+1) (by omega) (by omega)
 have hj' : l=((tripO o).take k).filter fun p=>p.2.2||!sameT p.2.1 o.rest:=by rw[hJ] at hj; exact hj
 have hll:l.length≤k:=by
  rw[hj']; refine Nat.le_trans (List.length_filter_le _ _) ?_
  simp; omega
 by_cases g:k<o.names.length
 ·have g1:k<o.fields.length:=by omega
  have g2:k<o.must.length:=by omega
  have hs:=trip_get g g1 g2 (by omega)
  have hst:=filter_take (fun p:S × Ty × Bool=>p.2.2||!sameT p.2.1 o.rest) (l:=tripO o) (k:=k) (by omega)
  rw[hs,← hj'] at hst
  simp[g]
  refine XCut.go hmix ?_
  cases e1:o.must[k]
  ·simp[g,g1,g2,e1]
   intros
   refine XDCall.ret (c_shape_Same _ _ (o5 _ (List.getElem_mem g1)) o4) ?_
   cases e2:sameT o.fields[k] o.rest
   ·rw[if_pos (by simp[e2])] at hst
    simp[g,g1,g2,e1,e2,hw]
    exact fun _=>⟨by omega,fun _=>⟨by omega,fun _=>⟨by omega,l++[(o.names[k],o.fields[k],o.must[k])],by rw[hJ]; exact hst.symm,fun _=>by simp[e1]⟩⟩⟩
   ·rw[if_neg (by simp[e1,e2])] at hst
    simp[g,g1,g2,e1,e2,hw]
    exact⟨l,by rw[hJ]; exact hst.symm,fun _=>by simp⟩
  ·rw[if_pos (by simp[e1])] at hst
   simp[g,g1,g2,e1,hw]
   exact fun _=>⟨by omega,fun _=>⟨by omega,fun _=>⟨by omega,l++[(o.names[k],o.fields[k],o.must[k])],by rw[hJ]; exact hst.symm,fun _=>by simp[e1]⟩⟩⟩
 ·have e1:l=(tripO o).filter fun p=>p.2.2||!sameT p.2.1 o.rest:=by rw[hj',List.take_of_length_le (by omega)]
  rw[hR,← e1]
  simp[g,ofTrip]
set_option maxHeartbeats 4000000 in
theorem trimmed_step (h:Int) (N:Ty→Ty) (NM:List S) (B:Nat) (hN:NormOk M.F_tidy_normal h N NM B) (hNf:∀ t,formedT t=true→formedT (N t)=true) (h3:NM.length≤268435456) (hM:4*(NM.length+1)≤B) (o:Ob) (ho:formedO o=true) (hbo:bdO NM 4 o) :
 Ret prog M.F_tidy_trimmed [.agg (cO o),.int .i64 h] (.agg (cO (trimO N o))):=by
 refine Ret.go hmix h_tidy_trimmed (by simp) fun hb w0 F0 hG=>?_
 have hnl:o.names.length≤NM.length:=SS_len (formedO_SS ho) hbo.1
 have c0:=c_tidy_spare o ho (by omega)
 have hs:=formed_spareO ho
 have hsb:=bd_spareO hbo
 have hT:trimO N o=if (spareO o).names.length≤12 then spareO o else spareO (.mk ((spareO o).names.take 12) ((spareO o).fields.take 12) ((spareO o).must.take 12) (N (sumL ((spareO o).rest::(spareO o).fields.drop 12)))):=rfl
 generalize trimO N o=R at *
 generalize spareO o=p at *
 obtain⟨p1,p2,p3,p4,p5,p6⟩:=formedO_spec hs
 have hpl:p.names.length≤NM.length:=SS_len (formedO_SS hs) hsb.1
 simp
 intro v1 v2
 refine XCall.ret c0 ?_
 by_cases h12:p.names.length≤12
 ·have h12' : (p.names.length:Int)≤12:=by omega
  rw[if_pos h12] at hT
  simp[h12',hT]
 ·have h12' : ¬ (p.names.length:Int)≤12:=by omega
  rw[if_neg h12] at hT
  have hfl:∀ t∈p.rest::p.fields.drop 12,formedT t=true:=fun t ht=>by
   rcases List.mem_cons.1 ht with rfl|ht
   ·exact p4
   ·exact p5 t (List.mem_of_mem_drop ht)
  have hbl:∀ t∈p.rest::p.fields.drop 12,bdT NM 4 t:=fun t ht=>by
   rcases List.mem_cons.1 ht with rfl|ht
   ·exact hsb.2.2
   ·exact hsb.2.1 t (List.mem_of_mem_drop ht)
  have hll:(p.rest::p.fields.drop 12).length≤NM.length+1:=by simp; omega
  have cTg:=c_tidy_together sorts_ok compacts_ok NM 4 _ hfl hbl (by omega)
  have hfr:=formed_sumL hfl
  have hbr:bdT NM (4*(NM.length+1)) (sumL (p.rest::p.fields.drop 12)):=bd_mono (by omega) _ (bd_sumL hbl)
  generalize sumL (p.rest::p.fields.drop 12)=r at *
  have c2:=hN r _ hfr hbr hM
  have hmk:Ob.mk (p.names.take 12) (p.fields.take 12) (p.must.take 12) (N r)=ofTrip ((tripO p).take 12) (N r):=by
   obtain⟨t1,t2,t3⟩:=trip_names p1 p2
   unfold ofTrip
   rw[List.map_take,List.map_take,List.map_take,t1,t2,t3]
  have hfo:formedO (ofTrip ((tripO p).take 12) (N r))=true:=formed_trip hs (List.take_sublist _ _) (hNf r hfr)
  rw[← hmk] at hfo
  have c3:=c_tidy_spare _ hfo (by simp; omega)
  rw[← hT] at c3
  generalize N r=z at *
  have q1:(12:Int)≤p.fields.length:=by omega
  have q2:(12:Int)≤p.names.length:=by omega
  have q3:(12:Int)≤p.must.length:=by omega
  have q4:12≤p.fields.length:=by omega
  have q5:p.fields.length≤68719476735+12:=by omega
  have q6:1+(p.fields.length-12)≤68719476736:=by omega
  have et:List.take (p.fields.length-12) (List.drop 12 (List.map encTy p.fields))=(p.fields.drop 12).map encTy:=by
   rw[List.take_of_length_le (by simp),List.map_drop]
  have c4:Ret prog M.F_tidy_spare [.agg [.vec 1 false ((p.names.map encStr).take 12),.vec 9 false ((p.fields.map encTy).take 12),.vec 1 false ((p.must.map encBool).take 12),.bool z.all,.bool z.null,.bool z.fls,.bool z.tru,.vec 2 false (z.nums.map encSpan),.bool z.any,.vec 1 false (z.texts.map encStr),.vec 11 false (z.arrays.map encArr),.vec 12 false (z.objects.map encObj)]] (.agg (cO R)):=by
   rw[← List.map_take,← List.map_take,← List.map_take]
   exact c3
  have c5:Ret prog M.F_tidy_together [.vec 9 false (encTy p.rest::(p.fields.drop 12).map encTy)] (.agg (cT r)):=cTg
  have q7:p.fields.length-12+1=1+(p.fields.length-12):=by omega
  have et2:List.take (1+(p.fields.length-12)) (encTy p.rest::(p.fields.drop 12).map encTy)=encTy p.rest::(p.fields.drop 12).map encTy:=List.take_of_length_le (by simp; omega)
  simp[h12',q1,q2,q3,q4,q6,et]
  intro v15
  refine XDCall.ret (r:=.agg (cT r)) (by rw[← et2] at c5; simpa[q6,et] using c5) ?_
  simp
  refine⟨by omega,q2,q1,q3,?_⟩
  refine XCall.ret (r:=.agg (cT z)) (by simp; exact c2) ?_
  simp
  refine XCall.ret (r:=.agg (cO R)) (by simp; exact c4) ?_
  simp
set_option maxHeartbeats 4000000 in
theorem object_step (h:Int) (N:Ty→Ty) (NM:List S) (B m:Nat) (hN:NormOk M.F_tidy_normal h N NM B) (hNf:∀ t,formedT t=true→formedT (N t)=true) (hNn:∀ t,formedT t=true→never (N t)=never t) (hNb:∀ t m,bdT NM m t→bdT NM 4 (N t)) (h3:NM.length≤268435456) (hM:4*(NM.length+1)≤B) (o:Ob) (ho:formedO o=true) (hbo:bdO NM m o) (hm:m≤B) :
 Ret prog M.F_tidy_object [.agg (cO o),.int .i64 h] (.agg (cO (objectO N o))):=by
 refine Ret.go hmix h_tidy_object (by simp) fun hb w0 F0 hG=>?_
 obtain⟨o1,o2,o3,o4,o5,o6⟩:=formedO_spec ho
 have hT:objectO N o=trimO N (.mk o.names (o.fields.map N) o.must (N o.rest)):=rfl
 have hfo:formedO (.mk o.names (o.fields.map N) o.must (N o.rest))=true:=by
  refine formedO_intro (by simp[o1]) o2 o3 (hNf _ o4) (fun f hf=>?_) (fun p hp hm=>?_)
  ·obtain⟨t,ht,rfl⟩:=List.mem_map.1 hf
   exact hNf t (o5 t ht)
  ·simp only[Ob.fields_mk,Ob.must_mk] at hp
   have:(o.fields.map N).zip o.must=(o.fields.zip o.must).map fun p=>(N p.1,p.2):=by
    rw[← List.map_id o.must,List.zip_map]; simp
   rw[this] at hp
   obtain⟨x,hx,rfl⟩:=List.mem_map.1 hp
   rw[hNn _ (o5 _ (List.of_mem_zip hx).1)]
   exact o6 x hx hm
 have hbo' : bdO NM 4 (.mk o.names (o.fields.map N) o.must (N o.rest)):=⟨hbo.1,fun f hf=>by
  obtain⟨t,ht,rfl⟩:=List.mem_map.1 hf
  exact hNb t m (hbo.2.1 t ht),hNb _ m hbo.2.2⟩
 have c1:=trimmed_step h N NM B hN hNf h3 hM _ hfo hbo'
 rw[← hT] at c1
 generalize objectO N o=R at *
 have hnl:o.names.length≤NM.length:=SS_len (formedO_SS ho) hbo.1
 have c2:=hN o.rest m o4 hbo.2.2 hm
 simp
 intro v1 v2 v5
 obtain⟨J,hJ⟩ : ∃ J:Nat→List Ty→Prop,J=fun k fs=>fs=(o.fields.take k).map N:=⟨_,rfl⟩
 refine XLoop.cntR hmix [(5,9,1001)] rfl o.fields.length (fun v k (fs:List Ty)=>⟨[(12,.int .i64 k),(11,.int .i64 o.fields.length),(10,.vec 9 false (o.fields.map encTy)),(5,.own (1001,v) 9 0 fs.length false),(4,.ptr (4,v2) 12 0 0),(2,.ptr (2,v1) 12 0 0),(1,.int .i64 h)],
  [((1001,v),some ⟨9,fs.map encTy,false,false⟩),((4,v2),some ⟨12,[M.z4],false,true⟩),((2,v1),some ⟨12,[cO o],false,true⟩)]⟩) J [] (by rw[hJ]; rfl) (by simp) fun v k fs _ hk hj=>?_
 have hw:=wrap64 (n:=(k:Int)+1) (by omega) (by omega)
 have hj' : fs=(o.fields.take k).map N:=by rw[hJ] at hj; exact hj
 have hll:fs.length=k:=by rw[hj']; simp; omega
 by_cases g:k<o.fields.length
 ·have hst:=map_take' N g
  rw[← hj'] at hst
  have c3:=hN o.fields[k] m (o5 _ (List.getElem_mem g)) (hbo.2.1 _ (List.getElem_mem g)) hm
  simp[g]
  intros
  refine XCall.ret (r:=.agg (cT (N o.fields[k]))) (by simp; exact c3) ?_
  simp[hw,g]
  exact fun _=>⟨by omega,fs++[N o.fields[k]],by rw[hJ]; exact hst.symm,fun _=>by simp⟩
 ·have e1:fs=o.fields.map N:=by rw[hj',List.take_of_length_le (by omega)]
  rw[← e1] at c1
  generalize N o.rest=r at *
  have c4:Ret prog M.F_tidy_trimmed [.agg [.vec 1 false (o.names.map encStr),.vec 9 false (fs.map encTy),.vec 1 false (o.must.map encBool),.bool r.all,.bool r.null,.bool r.fls,.bool r.tru,.vec 2 false (r.nums.map encSpan),.bool r.any,.vec 1 false (r.texts.map encStr),.vec 11 false (r.arrays.map encArr),.vec 12 false (r.objects.map encObj)],.int .i64 h] (.agg (cO R)):=c1
  simp[g]
  intros
  refine XDCall.ret c2 ?_
  simp
  refine XDCall.ret (r:=.agg (cO R)) (by simpa using c4) ?_
  simp
end Go.Proofs.YtfilonnphgnplaaGreatDoor.Pv
set_option maxRecDepth 100000
namespace Go.Proofs.YtfilonnphgnplaaGreatDoor.Pv
open Go Go.Tidy
set_option maxHeartbeats 4000000 in
theorem c_tidy_laidOut (t:Ty) (ht:formedT t=true):Ret prog M.F_tidy_laidOut [.agg (cT t)] (.bool (sameT t laidAll)):=by
 have cs:=c_shape_Same t laidAll ht fit_laidAll.1
 refine Ret.go hmix h_tidy_laidOut (by simp) fun hb w0 F0 hG=>?_
 simp
 intros
 refine XDCall.ret c_shape_Every ?_
 simp
 refine XDCall.ret c_shape_Every ?_
 simp
 refine XDCall.ret (r:=.bool (sameT t laidAll)) (by simp; exact cs) ?_
 simp
section
variable {w0:World} {F0:Nat→Prop} {hG:GOk prog w0 F0}
set_option maxHeartbeats 4000000 in
theorem tnormal_l2 (h:Int) (t:Ty) (v2 v4 v5:Nat) (any:Bool) (texts:List S) (az:List Arr) (os:List Ob) (wf:Ob→Ob) (hh:IntKind.i64.wrap (h-1)=h-1) (hf:formedT (.mk false t.null t.fls t.tru t.nums any texts az os)=true) (hl:t.objects.length≤34359738368)
 (hW:∀ o∈t.objects,Ret prog M.F_tidy_object [.agg (cO o),.int .i64 (h-1)] (.agg (cO (wf o))))
 (hO:Ret prog M.F_tidy_objects [.vec 12 false ((t.objects.map wf).map encObj),.int .i64 (h-1)] (.vec 12 false (os.map encObj))) :
 ∀ st:St,(∀ v,LS (canonF [(9000005,12,1008)] v st) ⟨[(59,.int .i64 0),(58,.int .i64 t.objects.length),(57,.vec 12 false (t.objects.map encObj)),(5,.ptr (5,v5) 9 0 0),(4,.ptr (4,v4) 9 0 0),(2,.ptr (2,v2) 9 0 0),(1,.int .i64 h)],[((5,v5),some ⟨9,[outC t any (.vec 1 false (texts.map encStr)) (.vec 11 false (az.map encArr)) (.own (1008,v) 12 0 0 false)],false,true⟩),((1008,v),some ⟨12,[],false,false⟩),((4,v4),some ⟨9,[M.z1],false,true⟩),((2,v2),some ⟨9,[cT t],false,true⟩)]⟩) →
 XLoop ⟨prog,w0,F0,83,[],0,hG⟩ (.loop M.b_tidy_normal_2) st [.bk 2,.sq M.t_tidy_normal_0]
  (retIs M.rs_tidy_normal (.agg (cT (if sameT (.mk false t.null t.fls t.tru t.nums any texts az os) laidAll then tEvery else .mk false t.null t.fls t.tru t.nums any texts az os)))):=by
 have cs:=c_tidy_laidOut (.mk false t.null t.fls t.tru t.nums any texts az os) hf
 obtain⟨R,hR⟩ : ∃ R,R=(if sameT (.mk false t.null t.fls t.tru t.nums any texts az os) laidAll then tEvery else Ty.mk false t.null t.fls t.tru t.nums any texts az os):=⟨_,rfl⟩
 rw[← hR]
 intro st hst0
 obtain⟨J,hJ⟩ : ∃ J:Nat→List Ob→Prop,J=fun k acc=>acc=(t.objects.take k).map wf:=⟨_,rfl⟩
 refine XLoop.cntR hmix [(9000005,12,1008)] rfl t.objects.length (fun v k (acc:List Ob)=>⟨[(59,.int .i64 k),(58,.int .i64 t.objects.length),(57,.vec 12 false (t.objects.map encObj)),(5,.ptr (5,v5) 9 0 0),(4,.ptr (4,v4) 9 0 0),(2,.ptr (2,v2) 9 0 0),(1,.int .i64 h)],[((5,v5),some ⟨9,[outC t any (.vec 1 false (texts.map encStr)) (.vec 11 false (az.map encArr)) (.own (1008,v) 12 0 acc.length false)],false,true⟩),((1008,v),some ⟨12,acc.map encObj,false,false⟩),((4,v4),some ⟨9,[M.z1],false,true⟩),((2,v2),some ⟨9,[cT t],false,true⟩)]⟩) J [] (by rw[hJ]; rfl) (by simpa using hst0) fun v k acc _ hk hj=>?_
 have hw:=wrap64 (n:=(k:Int)+1) (by omega) (by omega)
 have hj' : acc=(t.objects.take k).map wf:=by rw[hJ] at hj; exact hj
 have hal:acc.length=k:=by rw[hj']; simp; omega
 by_cases g:k<t.objects.length
 ·have hst:=map_take' wf g
  rw[← hj'] at hst
  simp[g,hh]
  intros
  refine XDCall.ret (hW _ (List.getElem_mem g)) ?_
  simp[g,hw]
  exact⟨by omega,acc++[wf t.objects[k]],by rw[hJ]; exact hst.symm,fun _=>by simp⟩
 ·have e1:acc=t.objects.map wf:=by rw[hj',List.take_of_length_le (by omega)]
  rw[← e1] at hO
  simp[g,hh]
  refine XCall.ret (r:=.vec 12 false (os.map encObj)) (by simpa using hO) ?_
  simp
  refine XCall.ret (r:=.bool (sameT (.mk false t.null t.fls t.tru t.nums any texts az os) laidAll)) (by simp; exact cs) ?_
  cases hs:sameT (.mk false t.null t.fls t.tru t.nums any texts az os) laidAll<;>rw[hs] at hR
  ·simp[hR]
  ·simp
   refine XCall.ret c_shape_Every ?_
   simp[hR,tEvery]
set_option maxHeartbeats 4000000 in
theorem tnormal_t2 (h:Int) (t:Ty) (v2 v4 v5:Nat) (any:Bool) (texts:List S) (os:List Ob) (wf:Ob→Ob) (n:Ty→Ty) (hh:IntKind.i64.wrap (h-1)=h-1) (hf:formedT (.mk false t.null t.fls t.tru t.nums any texts (t.arrays.map fun a=>.mk (n a.item) a.min a.max) os)=true) (hl:t.objects.length≤34359738368)
 (ha:t.arrays.length≤1) (hA:∀ a∈t.arrays,Ret prog M.F_tidy_normal [.agg (cT a.item),.int .i64 (h-1)] (.agg (cT (n a.item))))
 (hW:∀ o∈t.objects,Ret prog M.F_tidy_object [.agg (cO o),.int .i64 (h-1)] (.agg (cO (wf o))))
 (hO:Ret prog M.F_tidy_objects [.vec 12 false ((t.objects.map wf).map encObj),.int .i64 (h-1)] (.vec 12 false (os.map encObj))) (arr0 obj0:PV) :
 XC ⟨prog,w0,F0,83,[],0,hG⟩ M.t_tidy_normal_2 ⟨[(5,.ptr (5,v5) 9 0 0),(4,.ptr (4,v4) 9 0 0),(2,.ptr (2,v2) 9 0 0),(1,.int .i64 h)],[((5,v5),some ⟨9,[outC t any (.vec 1 false (texts.map encStr)) arr0 obj0],false,true⟩),((4,v4),some ⟨9,[M.z1],false,true⟩),((2,v2),some ⟨9,[cT t],false,true⟩)]⟩ []
  (retIs M.rs_tidy_normal (.agg (cT (if sameT (.mk false t.null t.fls t.tru t.nums any texts (t.arrays.map fun a=>.mk (n a.item) a.min a.max) os) laidAll then tEvery else .mk false t.null t.fls t.tru t.nums any texts (t.arrays.map fun a=>.mk (n a.item) a.min a.max) os)))):=by
 have fin:=tnormal_l2 (w0:=w0) (F0:=F0) (hG:=hG) h t v2 v4 v5 any texts _ os wf hh hf hl hW hO
 generalize hAs:(t.arrays.map fun a=>Arr.mk (n a.item) a.min a.max)=az at *
 generalize (if sameT (.mk false t.null t.fls t.tru t.nums any texts az os) laidAll then tEvery else Ty.mk false t.null t.fls t.tru t.nums any texts az os)=R at *
 simp
 obtain⟨J,hJ⟩ : ∃ J:Nat→List Arr→Prop,J=fun k acc=>acc=(t.arrays.take k).map fun a=>.mk (n a.item) a.min a.max:=⟨_,rfl⟩
 refine XLoop.cntR hmix [(8000005,11,1007)] rfl t.arrays.length (fun v k (acc:List Arr)=>⟨[(39,.int .i64 k),(38,.int .i64 t.arrays.length),(37,.vec 11 false (t.arrays.map encArr)),(5,.ptr (5,v5) 9 0 0),(4,.ptr (4,v4) 9 0 0),(2,.ptr (2,v2) 9 0 0),(1,.int .i64 h)],[((5,v5),some ⟨9,[outC t any (.vec 1 false (texts.map encStr)) (.own (1007,v) 11 0 acc.length false) (.vec 12 true [])],false,true⟩),((1007,v),some ⟨11,acc.map encArr,false,false⟩),((4,v4),some ⟨9,[M.z1],false,true⟩),((2,v2),some ⟨9,[cT t],false,true⟩)]⟩) J [] (by rw[hJ]; rfl) (by simp) fun v k acc _ hk hj=>?_
 have hw:=wrap64 (n:=(k:Int)+1) (by omega) (by omega)
 have hj' : acc=(t.arrays.take k).map fun a=>.mk (n a.item) a.min a.max:=by rw[hJ] at hj; exact hj
 have hal:acc.length=k:=by rw[hj']; simp; omega
 by_cases g:k<t.arrays.length
 ·have hst:=map_take' (fun a:Arr=>Arr.mk (n a.item) a.min a.max) g
  rw[← hj'] at hst
  simp[g,hh]
  intros
  refine XCall.ret (hA _ (List.getElem_mem g)) ?_
  simp[g,hw]
  exact fun _=>⟨by omega,acc++[.mk (n t.arrays[k].item) t.arrays[k].min t.arrays[k].max],by rw[hJ]; exact hst.symm,fun _=>by simp; exact leR_refl _ _⟩
 ·have e1:acc=az:=by rw[hj',List.take_of_length_le (by omega),hAs]
  simp[g]
  exact fin _ fun v=>by simp[e1]
theorem tnormal_every (h:Int) (t:Ty) (hz:t.all=true∨(h=0∧(t.arrays≠[]∨t.objects≠[]))):Ret prog M.F_tidy_normal [.agg (cT t),.int .i64 h] (.agg (cT tEvery)):=by
 refine Ret.go hmix h_tidy_normal (by simp) fun hb w0 F0 hG=>?_
 simp only[bndL,bndV,List.length_map,LIM,and_true] at hb
 cases e0:t.all
 ·obtain⟨h1,h2⟩ : h=0∧(t.arrays≠[]∨t.objects≠[]):=by simpa[e0] using hz
  have hl:0<(t.arrays.length:Int)+t.objects.length:=by
   rcases h2 with h2|h2
   ·have:=List.length_pos_iff.2 h2; omega
   ·have:=List.length_pos_iff.2 h2; omega
  have w:=wrap64 (n:=(t.arrays.length:Int)+t.objects.length) (by omega) (by omega)
  simp[e0,h1,hl,w]
  intros
  refine XCall.ret c_shape_Every ?_
  simp[tEvery]
 ·simp[e0]
  intros
  refine XCall.ret c_shape_Every ?_
  simp[tEvery]
set_option maxHeartbeats 4000000 in
theorem tnormal_step (h:Int) (t:Ty) (os:List Ob) (wf:Ob→Ob) (n:Ty→Ty) (h1 : -9223372036854775807≤h) (h2:h≤9223372036854775807) (e0:t.all=false) (e1:h=0→t.arrays=[]∧t.objects=[])
 (hf:formedT (.mk false t.null t.fls t.tru t.nums (t.any||decide (16<t.texts.length)) (if 16<t.texts.length then [] else t.texts) (t.arrays.map fun a=>.mk (n a.item) a.min a.max) os)=true) (hl:t.objects.length≤34359738368) (ha:t.arrays.length≤1)
 (hA:∀ a∈t.arrays,Ret prog M.F_tidy_normal [.agg (cT a.item),.int .i64 (h-1)] (.agg (cT (n a.item))))
 (hW:∀ o∈t.objects,Ret prog M.F_tidy_object [.agg (cO o),.int .i64 (h-1)] (.agg (cO (wf o))))
 (hO:Ret prog M.F_tidy_objects [.vec 12 false ((t.objects.map wf).map encObj),.int .i64 (h-1)] (.vec 12 false (os.map encObj))) :
 Ret prog M.F_tidy_normal [.agg (cT t),.int .i64 h] (.agg (cT (finT t (t.arrays.map fun a=>.mk (n a.item) a.min a.max) os))):=by
 refine Ret.go hmix h_tidy_normal (by simp) fun hb w0 F0 hG=>?_
 have hh:=wrap64 (n:=h-1) (by omega) (by omega)
 have fin:=fun v2 v4 v5=>tnormal_t2 (w0:=w0) (F0:=F0) (hG:=hG) h t v2 v4 v5 _ _ os wf n hh hf hl ha hA hW hO (.vec 11 false (t.arrays.map encArr)) (.vec 12 false (t.objects.map encObj))
 have hR:finT t (t.arrays.map fun a=>.mk (n a.item) a.min a.max) os=(if sameT (.mk false t.null t.fls t.tru t.nums (t.any||decide (16<t.texts.length)) (if 16<t.texts.length then [] else t.texts) (t.arrays.map fun a=>.mk (n a.item) a.min a.max) os) laidAll then tEvery else Ty.mk false t.null t.fls t.tru t.nums (t.any||decide (16<t.texts.length)) (if 16<t.texts.length then [] else t.texts) (t.arrays.map fun a=>.mk (n a.item) a.min a.max) os):=rfl
 rw[← hR] at fin
 generalize finT t (t.arrays.map fun a=>Arr.mk (n a.item) a.min a.max) os=R at *
 have key:∀ v2 v4 v5 (st:St),(∀ v,LS (canonF [] v st) ⟨[(5,.ptr (5,v5) 9 0 0),(4,.ptr (4,v4) 9 0 0),(2,.ptr (2,v2) 9 0 0),(1,.int .i64 h)],[((5,v5),some ⟨9,[outC t t.any (.vec 1 false (t.texts.map encStr)) (.vec 11 false (t.arrays.map encArr)) (.vec 12 false (t.objects.map encObj))],false,true⟩),((4,v4),some ⟨9,[M.z1],false,true⟩),((2,v2),some ⟨9,[cT t],false,true⟩)]⟩) →
  XCut ⟨prog,w0,F0,83,[],0,hG⟩ M.c_tidy_normal_0 st [.sq M.t_tidy_normal_2] (retIs M.rs_tidy_normal (.agg (cT R))):=fun v2 v4 v5 st hst=>by
  refine XCut.anew [] rfl _ hst fun _ _=>?_
  refine XCut.oneR hmix [] rfl (fun _=>⟨[(5,.ptr (5,v5) 9 0 0),(4,.ptr (4,v4) 9 0 0),(2,.ptr (2,v2) 9 0 0),(1,.int .i64 h)],[((5,v5),some ⟨9,[outC t (t.any||decide (16<t.texts.length)) (.vec 1 false ((if 16<t.texts.length then [] else t.texts).map encStr)) (.vec 11 false (t.arrays.map encArr)) (.vec 12 false (t.objects.map encObj))],false,true⟩),((4,v4),some ⟨9,[M.z1],false,true⟩),((2,v2),some ⟨9,[cT t],false,true⟩)]⟩) ?_ fun _ _=>by rw[XE_sq]; exact fin v2 v4 v5
  by_cases h16:16<t.texts.length
  ·have h16' : (16:Int)<t.texts.length:=by omega
   simp[h16,h16']
  ·have h16' : ¬ (16:Int)<t.texts.length:=by omega
   simp[h16,h16']
 by_cases hz:h=0
 ·obtain⟨z1,z2⟩:=e1 hz
  have w0':=wrap64 (n:=0) (by omega) (by omega)
  simp[e0,hz,z1,z2,w0']
  rw[hz] at key
  exact fun v2 v4 v5=>key v2 v4 v5 _ fun v=>by simp[z1,z2,e0]
 ·simp[e0,hz]
  exact fun v2 v4 v5=>key v2 v4 v5 _ fun v=>by simp[e0]
end
end Go.Proofs.YtfilonnphgnplaaGreatDoor.Pv

/- Part 17. -/
import Derived.Test.YtfilonnphgnplaaGreatDoorC16
set_option linter.unusedSimpArgs false
set_option linter.unusedVariables false
set_option maxRecDepth 100000
namespace Go.Proofs.YtfilonnphgnplaaGreatDoor.Pv
open Go Go.Tidy
def cuA (q:Nat) (a:Arr):List PV:=cA (cutAr q a)
def cuT (q:Nat) (t:Ty):List PV:=cT (cutT q t)
def cuF (q:Nat) (o:Ob):List PV:=cO (cutFi q o)
def cuO (q:Nat) (o:Ob):List PV:=cO (cutOb q o)
def mixL {α:Type} (f g:α→List PV) (l:List α) (k:Nat):List (List PV):=(l.take k).map f++(l.drop k).map g
section
variable {α:Type} {f g:α→List PV} {l:List α} {k:Nat}
theorem mixL_len:(mixL f g l k).length=l.length:=by
 unfold mixL
 simp only[List.length_append,List.length_map,List.length_take,List.length_drop]
 omega
theorem mixL_zero:mixL f g l 0=l.map g:=by simp[mixL]
theorem mixL_all (h:l.length≤k):mixL f g l k=l.map f:=by
 unfold mixL
 rw[List.take_of_length_le h,List.drop_eq_nil_of_le h]; simp
theorem mixL_at (h:k<l.length):(mixL f g l k)[k]'(by rw[mixL_len]; exact h)=g l[k]:=by
 unfold mixL
 rw[List.getElem_append_right (by simp; omega)]
 simp[show k-min k l.length=0 by omega]
theorem mixL_set (h:k<l.length):(mixL f g l k).set k (f l[k])=mixL f g l (k+1):=by
 unfold mixL
 rw[List.set_append_right _ _ (by simp; omega),List.drop_eq_getElem_cons h]
 simp only[List.length_map,List.length_take,List.map_cons]
 rw[show k-min k l.length=0 by omega,List.set_cons_zero,List.take_succ_eq_append_getElem h,List.map_append,List.append_assoc]
 rfl
end
theorem leR_mid {hl:Key→Option HE} {x y:List PV} (h:leL hl x y) (R:List (List PV)):∀ P:List (List PV),leR hl (P++x::R) (P++y::R)
 | []=>⟨h,leR_refl hl R⟩
 | p::P=>⟨leL_refl hl p,leR_mid h R P⟩
def rowsM (q:Nat) (os:List Ob) (us:List Nat) (k:Nat):List (List PV):=(os.take k).map (cuF q)++rowsN (os.drop k) (us.drop k)
section
variable {q:Nat} {os:List Ob} {us:List Nat} {k:Nat}
theorem rowsM_zero:rowsM q os us 0=rowsN os us:=by simp[rowsM]
theorem rowsM_len:(rowsM q os us k).length=os.length:=by
 unfold rowsM
 rw[List.length_append,rowsN_len,List.length_map,List.length_take,List.length_drop]
 omega
theorem rowsM_split (h:k<os.length) (hu:us.length=os.length):rowsM q os us k=(os.take k).map (cuF q)++twF os[k] us[k]::rowsN (os.drop (k+1)) (us.drop (k+1)):=by
 unfold rowsM
 rw[List.drop_eq_getElem_cons h,List.drop_eq_getElem_cons (l:=us) (by omega)]
 rfl
theorem rowsM_next (h:k<os.length):rowsM q os us (k+1)=(os.take k).map (cuF q)++cuF q os[k]::rowsN (os.drop (k+1)) (us.drop (k+1)):=by
 unfold rowsM
 rw[List.take_succ_eq_append_getElem h,List.map_append,List.append_assoc]
 rfl
theorem rowsM_at (h:k<os.length) (hu:us.length=os.length):(rowsM q os us k)[k]'(by rw[rowsM_len]; exact h)=twF os[k] us[k]:=by
 have e:=rowsM_split (q:=q) h hu
 have:(rowsM q os us k)[k]? = some (twF os[k] us[k]):=by
  rw[e,List.getElem?_append_right (by simp; omega)]
  simp[show k-min k os.length=0 by omega]
 exact (List.getElem?_eq_some_iff.1 this).2
theorem rowsM_end (h:os.length≤k):rowsM q os us k=os.map (cuF q):=by
 unfold rowsM
 rw[List.take_of_length_le h,List.drop_eq_nil_of_le h]
 simp[rowsN]
theorem tlN_cons (h:k<os.length) (hu:us.length=os.length):tlN (os.drop k) (us.drop k)=((69,us[k]),some ⟨9,os[k].fields.map encTy,false,false⟩)::tlN (os.drop (k+1)) (us.drop (k+1)):=by
 rw[List.drop_eq_getElem_cons h,List.drop_eq_getElem_cons (l:=us) (by omega)]
 rfl
end
theorem kf_map {α:Type} {f:α→List PV} (h:∀ a,kfL (f a)=true):∀ l:List α,kfR (l.map f)=true
 | []=>rfl
 | a::l=>by simp[kfR,h a,kf_map h l]
theorem cuF_kf (q:Nat) (o:Ob):kfL (cuF q o)=true:=by simp[cuF,kfL,kfV]
def cutRow (t:Ty) (a o:PV):List PV:=[.bool false,.bool t.null,.bool t.fls,.bool t.tru,.vec 2 false (t.nums.map encSpan),.bool t.any,.vec 1 false (t.texts.map encStr),a,o]
set_option maxHeartbeats 8000000 in
theorem cut_step (t:Ty) (h:Nat) (hT:RetN prog M.F_shape_Twin [.agg (cT t)] (twK t)) (hA:0<h→∀ a∈t.arrays,Ret prog M.F_tidy_cut [.agg (cT a.item),.int .i64 (h-1:Nat)] (.agg (cT (cutT (h-1) a.item))))
 (hF:0<h→∀ o∈t.objects,∀ f∈o.fields,Ret prog M.F_tidy_cut [.agg (cT f),.int .i64 (h-1:Nat)] (.agg (cT (cutT (h-1) f))))
 (hR:0<h→∀ o∈t.objects,Ret prog M.F_tidy_cut [.agg (cT o.rest),.int .i64 (h-1:Nat)] (.agg (cT (cutT (h-1) o.rest)))) :
 Ret prog M.F_tidy_cut [.agg (cT t),.int .i64 h] (.agg (cT (cutT h t))):=by
 refine Ret.go hmix h_tidy_cut (by simp) fun hb w0 F0 hG=>?_
 simp only[bndL,bndV,List.length_map,LIM,and_true] at hb
 have cE:=c_shape_Every
 have hh:(h:Int)≤9223372036854775807:=hb.2.2
 have hadd:=wrap64 (n:=(t.arrays.length:Int)+t.objects.length) (by omega) (by omega)
 cases e0:t.all
 case true =>
   rw[show cutT h t=tEvery by rw[cutT_def,e0]; rfl]
   simp[e0]
   intros
   refine XCall.ret cE ?_
   simp[tEvery]
 by_cases g0:h=0∧0<t.arrays.length+t.objects.length
 ·obtain⟨rfl,g0⟩:=g0
  have hl:0<(t.arrays.length:Int)+t.objects.length:=by omega
  have hne:(!t.arrays.isEmpty||!t.objects.isEmpty)=true:=by
   cases ha:t.arrays with
   | cons _ _=>rfl
   | nil =>
     cases ho:t.objects with
     | cons _ _=>rfl
     | nil=>rw[ha,ho] at g0; simp at g0
  rw[show cutT 0 t=tEvery by rw[cutT_def,e0,hne]; rfl]
  simp[e0,hl,hadd]
  intros
  refine XCall.ret cE ?_
  simp[tEvery]
 have hC:cutT h t=.mk false t.null t.fls t.tru t.nums t.any t.texts (t.arrays.map (cutAr (h-1))) (t.objects.map (cutOb (h-1))):=by
  have hc:(h == 0&&(!t.arrays.isEmpty||!t.objects.isEmpty))=false:=by
   by_cases hz:h=0
   ·have:t.arrays.length+t.objects.length=0:=by omega
    rw[List.length_eq_zero_iff.1 (show t.arrays.length=0 by omega),List.length_eq_zero_iff.1 (show t.objects.length=0 by omega)]
    simp
   ·simp[hz]
  rw[cutT_def,e0,hc]; rfl
 rw[hC]
 clear hC
 obtain⟨H,hH⟩ : ∃ H:Int,H=h:=⟨_,rfl⟩
 obtain⟨W,hW⟩ : ∃ W:Int,W=IntKind.i64.wrap (H-1):=⟨_,rfl⟩
 have hWq:0<h→W=((h-1:Nat):Int):=fun h0=>by rw[hW,hH,wrap64 (by omega) (by omega)]; omega
 have hpos:0<t.arrays.length+t.objects.length→0<h:=fun k=>by omega
 rw[← hH]
 obtain⟨q,hq⟩ : ∃ q,q=h-1:=⟨_,rfl⟩
 have hA' : ∀ a∈t.arrays,Ret prog M.F_tidy_cut [.agg (cT a.item),.int .i64 W] (.agg (cT (cutT q a.item))):=fun a ha=>by
  have h0:=hpos (by have:=List.length_pos_of_mem ha; omega)
  rw[hWq h0,hq]; exact hA h0 a ha
 have hF' : ∀ o∈t.objects,∀ f∈o.fields,Ret prog M.F_tidy_cut [.agg (cT f),.int .i64 W] (.agg (cT (cutT q f))):=fun o ho f hf=>by
  have h0:=hpos (by have:=List.length_pos_of_mem ho; omega)
  rw[hWq h0,hq]; exact hF h0 o ho f hf
 have hR' : ∀ o∈t.objects,Ret prog M.F_tidy_cut [.agg (cT o.rest),.int .i64 W] (.agg (cT (cutT q o.rest))):=fun o ho=>by
  have h0:=hpos (by have:=List.length_pos_of_mem ho; omega)
  rw[hWq h0,hq]; exact hR h0 o ho
 rw[← hq]
 have hcase:((H=0)=True∧((0:Int)<(t.arrays.length:Int)+t.objects.length)=False)∨((H=0)=False∧True):=by
  by_cases hz:h=0
  ·exact .inl ⟨eq_true (by omega),eq_false (by omega)⟩
  ·exact .inr ⟨eq_false (by omega),trivial⟩
 clear hA hF hR hWq hpos
 have hbA:t.arrays.length≤140737488355328:=hb.1.2.2.2.2.2.2.2.1.1
 have hbO:t.objects.length≤140737488355328:=hb.1.2.2.2.2.2.2.2.2.1
 rcases hcase with ⟨gd,hs⟩|⟨gd,hs⟩
 all_goals
   simp[e0,gd,hs,hadd]
   intro w2 w4
   refine XCall.retN (K:=twK t) rfl (by simpa only[cT,e0] using hT) fun MM r h' hM hlt hK gg1 gg2=>?_
   obtain⟨v,us,u1,u2,rfl,rfl⟩:=hK
   simp[twRow,e0]
   have tailOk:∀ (k:Nat),(us.drop k).Nodup:=fun k=>u2.sublist (List.drop_sublist k us)
   refine XLoop.cnt hmix t.arrays.length (fun k (_:Unit)=>⟨[(32,.int .i64 k),(31,.int .i64 t.arrays.length),(4,.ptr (4,w4) 9 0 0),(2,.ptr (2,w2) 9 0 0),(1,.int .i64 H)],
    ((2,w2),some ⟨9,[cutRow t (.own (1017,v) 11 0 t.arrays.length false) (.own (1019,v) 12 0 t.objects.length false)],false,true⟩)::((4,w4),some ⟨9,[M.z1],false,true⟩)::((1017,v),some ⟨11,mixL (cuA q) encArr t.arrays k,false,false⟩)::((1019,v),some ⟨12,rowsN t.objects us,false,true⟩)::tlN t.objects us⟩) (fun _ _=>True) () trivial (by
      simp[cutRow,mixL_zero,leR_refl]
      refine OkT.sub u2 ?_
      repeat (first|exact OkT.nil|refine OkT.cons (by simp) ?_)) fun k _ hk _=>?_
   have hw:=wrap64 (n:=(k:Int)+1) (by omega) (by omega)
   by_cases g1:k<t.arrays.length
   ·have cA:=hA' _ (List.getElem_mem g1)
    have hl:(mixL (cuA q) encArr t.arrays k).length=t.arrays.length:=mixL_len
    have hx:(mixL (cuA q) encArr t.arrays k)[k]'(by rw[hl]; exact g1)=encArr t.arrays[k]:=mixL_at g1
    have hs:=mixL_set (f:=cuA q) (g:=encArr) g1
    simp[g1,cutRow,hl,hx,← hW]
    intros
    refine XDCall.ret (by simpa using cA) ?_
    simp[g1,hw,hl,hx,leR_refl]
    refine⟨by rw[← hs]; exact leR_set2 (by simp[cuA,cutAr]),?_⟩
    refine OkT.sub u2 ?_
    repeat (first|exact OkT.nil|refine OkT.cons (by simp) ?_)
   have hAll:mixL (cuA q) encArr t.arrays k=t.arrays.map (cuA q):=mixL_all (by omega)
   rw[hAll]
   clear hAll
   simp[g1,cutRow]
   refine XLoop.cntV hmix t.objects.length (fun k (_:Unit)=>⟨[(53,.int .i64 k),(52,.int .i64 t.objects.length),(51,.own (1019,v) 12 0 t.objects.length false),(4,.ptr (4,w4) 9 0 0),(2,.ptr (2,w2) 9 0 0),(1,.int .i64 H)],
    ((2,w2),some ⟨9,[cutRow t (.own (1017,v) 11 0 t.arrays.length false) (.own (1019,v) 12 0 t.objects.length false)],false,true⟩)::((4,w4),some ⟨9,[M.z1],false,true⟩)::((1017,v),some ⟨11,t.arrays.map (cuA q),false,false⟩)::((1019,v),some ⟨12,rowsM q t.objects us k,false,true⟩)::tlN (t.objects.drop k) (us.drop k)⟩) (fun _ _=>True) () trivial (by
      simp[cutRow,rowsM_zero,leR_refl]
      refine OkT.sub u2 ?_
      repeat (first|exact OkT.nil|refine OkT.cons (by simp) ?_)) fun i _ N hi _ hVN hN=>?_
   clear hN hVN
   have hwi:=wrap64 (n:=(i:Int)+1) (by omega) (by omega)
   by_cases g2:i<t.objects.length
   ·have hF:=hF' _ (List.getElem_mem g2)
    have hl:(rowsM q t.objects us i).length=t.objects.length:=rowsM_len
    have hx:(rowsM q t.objects us i)[i]'(by rw[hl]; exact g2)=twF t.objects[i] us[i]:=rowsM_at g2 u1
    have hbf:t.objects[i].fields.length≤140737488355328:=by
     have:=bndR_map hb.1.2.2.2.2.2.2.2.2.2 _ (List.getElem_mem g2)
     simp[bndL,bndV,LIM] at this
     omega
    have hnd:(us.drop (i+1)).Nodup:=tailOk (i+1)
    have hnu:us[i] ∉ us.drop (i+1):=by
     have:=tailOk i
     rw[List.drop_eq_getElem_cons (by omega)] at this
     exact (List.nodup_cons.1 this).1
    have hR1:=rowsM_split (q:=q) g2 u1
    have hR2:=rowsM_next (q:=q) (us:=us) g2
    rw[tlN_cons g2 u1]
    generalize ho:t.objects[i]=o at *
    generalize huu:us[i]=u at *
    simp[g2,hl,hx,twF,twO]
    intro w7 hw7
    refine XLoop.cnt hmix o.fields.length (fun j (_:Unit)=>⟨[(60,.int .i64 j),(59,.int .i64 o.fields.length),(7,.ptr (7,w7) 12 0 0),(53,.int .i64 i),(52,.int .i64 t.objects.length),(51,.own (1019,v) 12 0 t.objects.length false),(4,.ptr (4,w4) 9 0 0),(2,.ptr (2,w2) 9 0 0),(1,.int .i64 H)],
     ((69,u),some ⟨9,mixL (cuT q) encTy o.fields j,false,false⟩)::((7,w7),some ⟨12,[twF o u],false,true⟩)::((2,w2),some ⟨9,[cutRow t (.own (1017,v) 11 0 t.arrays.length false) (.own (1019,v) 12 0 t.objects.length false)],false,true⟩)::((4,w4),some ⟨9,[M.z1],false,true⟩)::((1017,v),some ⟨11,t.arrays.map (cuA q),false,false⟩)::((1019,v),some ⟨12,rowsM q t.objects us i,false,true⟩)::tlN (t.objects.drop (i+1)) (us.drop (i+1))⟩) (fun _ _=>True) () trivial (by
       simp[cutRow,twF,twO,mixL_zero,leR_refl]
       refine OkT.sub hnd ?_
       repeat (first|exact OkT.nil|refine OkT.cons (by simp[hnu]) ?_)) fun j _ hj _=>?_
    have hwj:=wrap64 (n:=(j:Int)+1) (by omega) (by omega)
    by_cases g3:j<o.fields.length
    ·have cF:=hF _ (List.getElem_mem g3)
     have hl3:(mixL (cuT q) encTy o.fields j).length=o.fields.length:=mixL_len
     have hx3:(mixL (cuT q) encTy o.fields j)[j]'(by rw[hl3]; exact g3)=encTy o.fields[j]:=mixL_at g3
     have hs3:=mixL_set (f:=cuT q) (g:=encTy) g3
     simp[g3,hl3,hx3,cutRow,twF,twO,← hW]
     intros
     refine XDCall.ret (by simpa using cF) ?_
     simp[g3,hwj,hl3,hx3,leR_refl]
     refine⟨by rw[← hs3]; exact leR_set2 (by simp[cuT]),?_⟩
     refine OkT.sub hnd ?_
     repeat (first|exact OkT.nil|refine OkT.cons (by simp[hnu]) ?_)
    ·have hAll:mixL (cuT q) encTy o.fields j=o.fields.map (cuT q):=mixL_all (by omega)
     rw[hAll]
     clear hAll
     simp[g2,g3,hwi,cutRow,twF,twO]
     refine⟨[(69,u)],?_⟩
     rw[LSF_eq,hR1,hR2]
     simp[freezeAll,leR_refl]
     refine⟨leR_mid (by simp[twF,twO,cuF,cutFi,cuT]) _ _,?_⟩
     refine OkT.sub hnd ?_
     repeat (first|exact OkT.nil|refine OkT.cons (by simp[hnu]) ?_)
   ·have hAll:rowsM q t.objects us i=t.objects.map (cuF q):=rowsM_end (by omega)
    rw[hAll]
    clear hAll
    simp[g2,cutRow]
    refine XLoop.cnt hmix t.objects.length (fun k (_:Unit)=>⟨[(80,.int .i64 k),(79,.int .i64 t.objects.length),(4,.ptr (4,w4) 9 0 0),(2,.ptr (2,w2) 9 0 0),(1,.int .i64 H)],
     [((2,w2),some ⟨9,[cutRow t (.own (1017,v) 11 0 t.arrays.length false) (.own (1019,v) 12 0 t.objects.length false)],false,true⟩),((4,w4),some ⟨9,[M.z1],false,true⟩),((1017,v),some ⟨11,t.arrays.map (cuA q),false,false⟩),((1019,v),some ⟨12,mixL (cuO q) (cuF q) t.objects k,false,false⟩)]⟩) (fun _ _=>True) () trivial (by
       simp[cutRow,mixL_zero,leR_refl,kf_map (cuF_kf q)]) fun k _ hk _=>?_
    have hw:=wrap64 (n:=(k:Int)+1) (by omega) (by omega)
    by_cases g4:k<t.objects.length
    ·have cR:=hR' _ (List.getElem_mem g4)
     have hl:(mixL (cuO q) (cuF q) t.objects k).length=t.objects.length:=mixL_len
     have hx:(mixL (cuO q) (cuF q) t.objects k)[k]'(by rw[hl]; exact g4)=cuF q t.objects[k]:=mixL_at g4
     have hs:=mixL_set (f:=cuO q) (g:=cuF q) g4
     generalize ho:t.objects[k]=o at *
     simp[g4,hl,hx,cutRow,cuF,cutFi,← hW]
     intros
     refine XDCall.ret (by simpa using cR) ?_
     simp[g4,hw,hl,hx,cuF,cutFi,leR_refl]
     rw[← hs]
     exact leR_set2 (by simp[cuO,cutOb])
    ·have hAll:mixL (cuO q) (cuF q) t.objects k=t.objects.map (cuO q):=mixL_all (by omega)
     rw[hAll]
     clear hAll
     simp[g4,cutRow]
     exact⟨fun _ _=>rfl,fun _ _=>rfl⟩
theorem c_tidy_cut (NM:List S) (m:Nat) (h1:NM.length≤8589934592) (h2:m≤8589934592):∀ t:Ty,formedT t=true→bdT NM m t→∀ h:Nat,Ret prog M.F_tidy_cut [.agg (cT t),.int .i64 h] (.agg (cT (cutT h t))):=by
 intro t
 induction hn:SizeOf.sizeOf t using Nat.strongRecOn generalizing t with
 | _ n ih =>
   subst hn
   intro ht hb h
   obtain⟨b1,b2,b3,b4⟩:=bdT_iff.1 hb
   obtain⟨f1,f2,f3,f4,f5,f6,f7,f8⟩:=formedT_spec ht
   have hT:=twin_own t (by omega) (by omega) (by omega) (by omega) (fun a ha=>c_shape_Twin NM m h1 h2 _ (formedA_spec (f7 a ha)).2.2.2.1 (b3 a ha)) fun o ho=>by
    obtain⟨o1,o2,o3,o4,o5,o6⟩:=formedO_spec (f8 o ho)
    have hb':=b4 o ho
    have hnl:o.names.length≤NM.length:=SS_len (formedO_SS (f8 o ho)) hb'.1
    exact⟨by omega,by omega,by omega,fun f hf=>c_shape_Twin NM m h1 h2 f (o5 f hf) (hb'.2.1 f hf),c_shape_Twin NM m h1 h2 o.rest o4 hb'.2.2⟩
   refine cut_step t h hT (fun _ a ha=>ih _ (sz_item ha) a.item rfl (formedA_spec (f7 a ha)).2.2.2.1 (b3 a ha) _) (fun _ o ho f hf=>ih _ (sz_field ho hf) f rfl ((formedO_spec (f8 o ho)).2.2.2.2.1 f hf) ((b4 o ho).2.1 f hf) _) fun _ o ho=>ih _ (sz_rest ho) o.rest rfl (formedO_spec (f8 o ho)).2.2.2.1 (b4 o ho).2.2 _
theorem p_Cut (NM:List S) (m:Nat) (h1:NM.length≤8589934592) (h2:m≤8589934592) (t:Ty) (hb' : bdT NM m t) (h:Int) :
 Ret prog M.F_tidy_Cut [.agg (cT t),.int .i64 h] (.tup [.agg (cT (if formedT t then (if h<0 then tNever else cutT h.toNat t) else tNever)),.int .i64 (if formedT t then (if h<0 then 2 else 0) else 1)]):=by
 refine Ret.go hmix h_tidy_Cut (by simp) fun hb w0 F0 hG=>?_
 have c1:=c_shape_Formed t
 cases g:formedT t
 ·rw[g] at c1
  simp
  intros
  refine XCall.ret (by simpa using c1) ?_
  simp[tNever]
 ·rw[g] at c1
  by_cases g1:h<0
  ·simp[g1]
   intros
   refine XCall.ret (by simpa using c1) ?_
   simp[g1,tNever]
  ·have c2:=c_tidy_cut NM m h1 h2 t g hb' h.toNat
   rw[show ((h.toNat:Nat):Int)=h by omega] at c2
   simp[g1]
   intros
   refine XCall.ret (by simpa using c1) ?_
   simp[g1]
   refine XCall.ret (by simpa using c2) ?_
   simp
end Go.Proofs.YtfilonnphgnplaaGreatDoor.Pv
set_option maxRecDepth 100000
namespace Go.Proofs.YtfilonnphgnplaaGreatDoor.Pv
open Go Go.Tidy
set_option maxHeartbeats 8000000 in
theorem c_law11_TidyCuts (hL:LibOk) (t:Ty) (h:Int) (v:Val):Ret prog M.F_law11_TidyCuts [.agg (cT t),.int .i64 h,.agg (cV v)] (.bool true):=by
 refine Ret.go hmix h_law11_TidyCuts (by simp) fun hb w0 F0 hG=>?_
 have c0:=c_law11_fixed hL
 have c1:=c_law11_fits t xNo
 obtain⟨fv,c2⟩:=c_kit_Fit1 v
 have c3:=c_ref09_Formed t
 have c4:=c_ref03_Formed v
 simp
 intros
 refine XCall.ret (by first|exact c0|(simp; exact c0)) ?_
 simp
 refine XCall.ret (by first|exact c1|(simp; exact c1)) ?_
 cases g:fitsB t xNo
 ·simp[g]
 simp[g]
 intros
 refine XCall.ret (by first|exact c2|(simpa using c2)) ?_
 cases g1:fv
 ·simp
 simp
 refine XCall.ret (by first|exact c3|(simp; exact c3)) ?_
 cases g2:formedT t
 ·simp[g2]
 simp[g2]
 refine XCall.ret (by first|exact c4|(simpa using c4)) ?_
 cases g3:formedV v
 ·simp[g3]
 have hf:fitB t=true:=by
  unfold fitsB at g
  simp only[Bool.and_eq_true] at g
  exact g.1.1.1
 obtain⟨f1,f2,f3⟩:=fit_all hf
 have hh:=ht_sz t
 have k1:=p_Cut (nmsP t) (szT t) (by omega) (by omega) t f3 h
 rw[g2] at k1
 simp only[if_true] at k1
 by_cases g4:h<0
 ·rw[if_pos g4,if_pos g4] at k1
  simp[g3]
  refine XCall.ret (by first|exact k1|(simpa using k1)) ?_
  simp[g4]
 rw[if_neg g4,if_neg g4] at k1
 obtain⟨n,rfl⟩ : ∃ n:Nat,h=n:=⟨h.toNat,by omega⟩
 rw[Int.toNat_natCast] at k1
 have fc:=formed_cutT n t g2
 have hhc:=height_cutT n t
 have k2:=c_ref09_Formed (cutT n t)
 rw[fc] at k2
 have hht:heightT (cutT n t)<2 ^ 62:=by
  by_cases q:n≤heightT t
  ·omega
  ·rw[cut_same n t g2 (by omega)]; omega
 have k3:=c_ref09_Height (cutT n t) hht
 have k4:=c_ref09_Height t (by omega)
 have k5:heightT t≤n→Ret prog M.F_law11_same [.agg (cT (cutT n t)),.agg (cT t)] (.bool true):=fun q=>by
  have:=c_law11_same (cutT n t) t
  rw[eqv_true (cut_same n t g2 q)] at this
  exact this
 have i1:=c_ref09_In t v g2 g3
 have i2:=c_ref09_In (cutT n t) v fc g3
 have m1:inT t v=true→inT (cutT n t) v=true:=in_cutT n t g2 v g3
 generalize cutT n t=c at *
 have hle:¬ (n:Int)<(heightT c:Int):=by omega
 simp[g3]
 refine XCall.ret (by first|exact k1|(simpa using k1)) ?_
 simp[g4]
 intros
 refine XCall.ret (by first|exact k2|(simpa using k2)) ?_
 simp
 refine XCall.ret (by first|exact k3|(simpa using k3)) ?_
 simp[hle]
 refine XCall.ret (by first|exact k4|(simpa using k4)) ?_
 by_cases g5:heightT t≤n
 ·have k5:=k5 g5
  simp[g5]
  refine XCall.ret (by first|exact k5|(simpa using k5)) ?_
  simp
  refine XCall.ret (by first|exact i1|(simpa using i1)) ?_
  cases hi:inT t v
  ·simp[hi]
  ·rw[m1 hi] at i2
   simp[hi]
   refine XCall.ret (by first|exact i2|(simpa using i2)) ?_
   simp
 ·simp[g5]
  refine XCall.ret (by first|exact i1|(simpa using i1)) ?_
  cases hi:inT t v
  ·simp[hi]
  ·rw[m1 hi] at i2
   simp[hi]
   refine XCall.ret (by first|exact i2|(simpa using i2)) ?_
   simp
end Go.Proofs.YtfilonnphgnplaaGreatDoor.Pv
namespace Go.Proofs.YtfilonnphgnplaaGreatDoor.Pv
open Go Go.Tidy
theorem tidyCuts_ret (x0:Go.Tidy.Ty) (x1:Int) (x2:Go.Tidy.Val):Ret prog M.F_law11_TidyCuts [.agg (cT x0),.int .i64 x1,.agg (cV x2)] (.bool true):=c_law11_TidyCuts libOk x0 x1 x2
end Go.Proofs.YtfilonnphgnplaaGreatDoor.Pv

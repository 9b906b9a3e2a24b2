/- Part 14. -/
import Derived.Test.YtfilonnphgnplaaGreatDoorC13
set_option linter.unusedSimpArgs false
set_option linter.unusedVariables false
set_option maxRecDepth 100000
namespace Go.Proofs.YtfilonnphgnplaaGreatDoor.Pv
open Go Go.Tidy
set_option maxHeartbeats 4000000 in
theorem tidy_arrays_step (a b:List Arr) (hl:a.length+b.length≤34359738368) (hT:∀ x∈a,∀ y∈b,Ret prog M.F_tidy_together [.vec 9 false [encTy x.item,encTy y.item]] (.agg (cT (sumT x.item y.item)))) :
 Ret prog M.F_tidy_arrays [.vec 11 false (a.map encArr),.vec 11 false (b.map encArr)] (.vec 11 false ((sumAs a b).map encArr)):=by
 refine Ret.go hmix h_tidy_arrays (by simp) fun hb w0 F0 hG=>?_
 have hc:=c_slices_Concat_Arr false false (a.map encArr) (b.map encArr) (by simpa using hl)
 cases a with
 | nil =>
   simp
   intros
   refine XCall.retO (by simpa using hc) ?_
   intro v hv
   simp[sumAs_nil_l]
 | cons x a =>
   cases b with
   | nil =>
     simp
     intros
     refine XCall.retO (by simpa using hc) ?_
     intro v hv
     simp[sumAs_nil_r]
   | cons y b =>
     have hT:=hT x (by simp) y (by simp)
     have q:¬ ((a.length:Int)+1=0):=by omega
     have q' : ¬ ((b.length:Int)+1=0):=by omega
     have q2:(0:Int)<(a.length:Int)+1:=by omega
     have q3:(0:Int)<(b.length:Int)+1:=by omega
     have e:sumAs (x::a) (y::b)=[sumA x y]:=by simp[sumAs]
     rw[e,sumA_def]
     generalize sumT x.item y.item=z at *
     simp[q,q',q2,q3]
     intros
     refine XDCall.ret (r:=.agg (cT z)) (by simpa using hT) ?_
     simp[q,q',q2,q3]
     refine XCut.go hmix ?_
     by_cases g1:x.max<0
     ·simp[q,q',q2,q3,g1]
     ·by_cases g2:y.max<0
      ·simp[q,q',q2,q3,g1,g2]
      ·simp[q,q',q2,q3,g1,g2]
def accT (l:List Ty) (k:Nat):Ty :=
 .mk false ((l.take k).any Ty.null) ((l.take k).any Ty.fls) ((l.take k).any Ty.tru) ((l.take k).foldl (fun a t=>sumN a t.nums) []) ((l.take k).any Ty.any) ((l.take k).flatMap Ty.texts) ((l.take k).foldl (fun a t=>sumAs a t.arrays) []) ((l.take k).flatMap Ty.objects)
theorem accT_succ (l:List Ty) {k:Nat} (hk:k<l.length):accT l (k+1)=.mk false ((accT l k).null||l[k].null) ((accT l k).fls||l[k].fls) ((accT l k).tru||l[k].tru) (sumN (accT l k).nums l[k].nums) ((accT l k).any||l[k].any) ((accT l k).texts++l[k].texts) (sumAs (accT l k).arrays l[k].arrays) ((accT l k).objects++l[k].objects):=by
 unfold accT
 have e:=List.take_succ_eq_append_getElem hk
 rw[e]
 simp only[List.any_append,List.foldl_append,List.flatMap_append,List.any_cons,List.any_nil,List.foldl_cons,List.foldl_nil,List.flatMap_cons,List.flatMap_nil,List.append_nil,Bool.or_false,Ty.null_mk,Ty.fls_mk,Ty.tru_mk,Ty.nums_mk,Ty.any_mk,Ty.texts_mk,Ty.arrays_mk,Ty.objects_mk]
theorem accT_zero (l:List Ty):accT l 0=tNever:=by simp[accT,tNever]
def rowT (g:Ty) (tx:PV):List PV:=[.bool false,.bool g.null,.bool g.fls,.bool g.tru,.vec 2 false (g.nums.map encSpan),.bool g.any,tx,.vec 11 false (g.arrays.map encArr),.vec 12 false (g.objects.map encObj)]
set_option maxHeartbeats 4000000 in
theorem together_step (l:List Ty) (hf:∀ t∈l,formedT t=true) (hn:∀ k,k<l.length→((accT l k).nums).length+((l[k]?.getD tNever).nums).length≤34359738368)
 (ht:∀ k,k<l.length→((accT l k).texts).length+((l[k]?.getD tNever).texts).length≤34359738368) (ho:∀ k,k<l.length→((accT l k).objects).length+((l[k]?.getD tNever).objects).length≤34359738368)
 (hsp:∀ k,∀ s∈(accT l k).nums,spanB s=true) (hS:SortsS prog M.F_slices_Sort_string) (hC:CompactsS prog M.F_slices_Compact_string)
 (hA:∀ k (hk:k<l.length),Ret prog M.F_tidy_arrays [.vec 11 false ((accT l k).arrays.map encArr),.vec 11 false (l[k].arrays.map encArr)] (.vec 11 false ((sumAs (accT l k).arrays l[k].arrays).map encArr))) :
 Ret prog M.F_tidy_together [.vec 9 false (l.map encTy)] (.agg (cT (togetherP l))):=by
 refine Ret.go hmix h_tidy_together (by simp) fun hb w0 F0 hG=>?_
 simp only[bndL,bndV,List.length_map,LIM,and_true] at hb
 generalize hR:togetherP l=R
 simp
 intro v2 v3
 obtain⟨J,hJ⟩ : ∃ J:Nat→Ty→Prop,J=fun k g=>g=accT l k∧(l.take k).any Ty.all=false:=⟨_,rfl⟩
 refine XLoop.cntR hmix [(7000003,1,1006)] rfl l.length (fun v k (g:Ty)=>⟨[(9,.int .i64 k),(8,.int .i64 l.length),(7,.vec 9 false (l.map encTy)),(3,.ptr (3,v3) 9 0 0),(2,.ptr (2,v2) 9 0 0)],
  [((3,v3),some ⟨9,[rowT g (.own (1006,v) 1 0 g.texts.length false)],false,true⟩),((1006,v),some ⟨1,g.texts.map encStr,false,false⟩),((2,v2),some ⟨9,[M.z1],false,true⟩)]⟩) J tNever (by rw[hJ]; exact⟨(accT_zero l).symm,by simp⟩) (fun v=>by simp[rowT,tNever]) fun v k g hv hk hj=>?_
 have hw:=wrap64 (n:=(k:Int)+1) (by omega) (by omega)
 have hj' : g=accT l k∧(l.take k).any Ty.all=false:=by rw[hJ] at hj; exact hj
 by_cases h1:k<l.length
 ·have hlk:l[k]?.getD tNever=l[k]:=by simp[h1]
  have a1:=hn k h1
  have a2:=ht k h1
  have a3:=ho k h1
  have a4:=hsp k
  have a5:=hA k h1
  have a6:∀ s∈l[k].nums,spanB s=true:=(formedT_spec (hf _ (List.getElem_mem h1))).2.2.2.2.1
  have hs:=accT_succ l h1
  rw[hlk] at a1 a2 a3
  rw[← hj'.1] at a1 a2 a3 a4 a5 hs
  have ha0:(l.take (k+1)).any Ty.all=l[k].all:=by
   rw[List.take_succ_eq_append_getElem h1,List.any_append,hj'.2]; simp
  generalize htk:l[k]=t at *
  have c1:=c_tidy_spans g.nums t.nums a4 a6 a1
  have c2:=c_slices_Concat_string false false (g.texts.map encStr) (t.texts.map encStr) (by simpa using a2)
  have c3:=c_slices_Concat_Obj false false (g.objects.map encObj) (t.objects.map encObj) (by simpa using a3)
  cases hal:t.all
  ·simp[h1,rowT,htk,hal]
   intro v5
   refine XCall.ret c1 ?_
   simp
   intro v54
   refine XCall.retO (by simpa using c2) ?_
   intro v55 _
   simp
   refine XCall.ret a5 ?_
   simp
   intro v67
   refine XCall.retO (by simpa using c3) ?_
   intro v68 _
   simp[hw,h1]
   refine⟨.mk false (g.null||t.null) (g.fls||t.fls) (g.tru||t.tru) (sumN g.nums t.nums) (g.any||t.any) (g.texts++t.texts) (sumAs g.arrays t.arrays) (g.objects++t.objects),?_,?_⟩
   ·rw[hJ]; exact⟨hs.symm,by rw[ha0,hal]⟩
   ·intro v1
    have e:(List.map encObj g.objects++List.map encObj t.objects).take (g.objects.length+t.objects.length)=List.map encObj g.objects++List.map encObj t.objects:=List.take_of_length_le (by simp)
    refine⟨⟨rfl,rfl,rfl,rfl,rfl,?_,rfl,?_⟩,?_⟩
    ·show _=(g.texts++t.texts).length
     simp
    ·rw[e]
     show List.map encObj (g.objects++t.objects)=_
     simp
    ·show leR _ _ (List.map encStr (g.texts++t.texts))
     rw[List.map_append]
     exact leR_refl _ _
  ·have hRe:R=tEvery:=by
      rw[← hR]
      unfold togetherP
      rw[if_pos]
      rw[List.any_eq_true]
      exact⟨t,htk ▸ List.getElem_mem h1,hal⟩
   simp[h1,rowT,htk,hal]
   intros
   refine XCall.ret c_shape_Every ?_
   simp[hRe]
 ·have hk2:k=l.length:=by omega
  have hg:g=accT l l.length:=by rw[← hk2]; exact hj'.1
  have hall:l.any Ty.all=false:=by have:=hj'.2; rwa [hk2,List.take_length] at this
  have hRg:R=.mk false g.null g.fls g.tru g.nums g.any (if g.any then [] else setC sCmp g.texts) g.arrays g.objects:=by
   rw[← hR,hg]
   unfold togetherP accT
   rw[if_neg (by simp[hall])]
   simp
  simp[h1,rowT]
  refine XCall.retH (sort_retH hS (l:=g.texts) (g:=(1006,v)) (by simp[rowS])) ?_
  simp[putS]
  have hcc:=fun h e=>compact_retH (h:=h) hC (l:=sortS g.texts) (g:=(1006,v)) e
  simp only[sortS_len] at hcc
  refine XCall.retH (hcc _ (by simp)) ?_
  simp[putS]
  have hfin:((compactR (sortS g.texts)).map rowS).take (compactS (sortS g.texts)).length=(setC sCmp g.texts).map encStr:=by
   rw[← compact_sort]
   unfold compactR
   rw[List.map_append,List.take_left' (by simp)]
   rfl
  have hle:(compactS (sortS g.texts)).length≤(compactR (sortS g.texts)).length:=by unfold compactR; simp
  generalize (compactS (sortS g.texts)).length=m at *
  generalize hrows:(compactR (sortS g.texts)).map rowS=rows at *
  have hlr:m≤rows.length:=by rw[← hrows]; simpa using hle
  refine XCut.go hmix ?_
  cases hany:g.any
  ·rw[hany] at hRg
   simp[hany,hRg,hfin,hlr]
  ·rw[hany] at hRg
   simp[hany,hRg,hfin,hlr]
end Go.Proofs.YtfilonnphgnplaaGreatDoor.Pv
set_option maxRecDepth 100000
namespace Go.Proofs.YtfilonnphgnplaaGreatDoor.Pv
open Go Go.Tidy
def okA (NM:List S) (n m:Nat) (x:Arr):Prop:=formedA x=true∧heightT x.item≤n∧bdT NM m x.item
theorem okA_sum {NM:List S} {n m k:Nat} {a b:List Arr} (ha:∀ x∈a,okA NM n m x) (hb:∀ x∈b,okA NM n k x):∀ x∈sumAs a b,okA NM n (m+k) x:=by
 have hF:=formed_sumAs a b (fun x hx=>(ha x hx).1) (fun x hx=>(hb x hx).1)
 intro x hx
 refine⟨hF x hx,?_⟩
 cases a with
 | nil =>
   rw[sumAs_nil_l] at hx
   exact⟨(hb x hx).2.1,bd_mono (by omega) _ (hb x hx).2.2⟩
 | cons a0 a =>
   cases b with
   | nil =>
     rw[sumAs_nil_r] at hx
     exact⟨(ha x hx).2.1,bd_mono (by omega) _ (ha x hx).2.2⟩
   | cons b0 b =>
     have e:sumAs (a0::a) (b0::b)=[sumA a0 b0]:=by simp[sumAs]
     rw[e,List.mem_singleton] at hx
     subst hx
     have h1:=ha a0 (by simp)
     have h2:=hb b0 (by simp)
     rw[sumA_def]
     exact⟨height_sumT n _ _ h1.2.1 h2.2.1,bd_sum h1.2.2 h2.2.2⟩
theorem ok_types {NM:List S} {n m:Nat} {t:Ty} (hf:formedT t=true) (hn:heightT t≤n+1) (hb:bdT NM m t):∀ x∈t.arrays,okA NM n m x:=fun x hx =>
 ⟨(formedT_spec hf).2.2.2.2.2.2.1 x hx,(height_le_succ.1 hn).1 x hx,(bdT_iff.1 hb).2.2.1 x hx⟩
def okW (NM:List S) (n:Nat) (ws:List (Nat × Ty)):Prop:=∀ p∈ws,formedT p.2=true∧heightT p.2≤n∧bdT NM p.1 p.2
def sumW (ws:List (Nat × Ty)):Nat:=(ws.map (·.1)).sum
theorem fold_okA {NM:List S} {n:Nat}:∀ (ws:List (Nat × Ty)) (acc:List Arr) (m:Nat),okW NM (n+1) ws→(∀ x∈acc,okA NM n m x) →
 ∀ x∈(ws.map (·.2)).foldl (fun a t=>sumAs a t.arrays) acc,okA NM n (m+sumW ws) x
 | [],acc,m,_,ha=>fun x hx=>by simpa[sumW] using ha x hx
 | (k,t)::ws,acc,m,hw,ha=>by
   have h0:=hw (k,t) (by simp)
   intro x hx
   have:=fold_okA ws (sumAs acc t.arrays) (m+k) (fun p hp=>hw p (by simp[hp])) (okA_sum ha (ok_types h0.1 h0.2.1 h0.2.2)) x (by simpa using hx)
   have e:m+k+sumW ws=m+sumW ((k,t)::ws):=by simp[sumW]; omega
   rwa [e] at this
theorem fold_nums:∀ (l:List Ty) (acc:List Span),(∀ t∈l,formedT t=true)→(∀ s∈acc,spanB s=true)→acc.length≤1 →
 (∀ s∈l.foldl (fun a t=>sumN a t.nums) acc,spanB s=true)∧(l.foldl (fun a t=>sumN a t.nums) acc).length≤1
 | [],acc,_,ha,hb=>⟨ha,hb⟩
 | t::l,acc,h,ha,hb=>by
   have hs:=formedT_spec (h t (by simp))
   exact fold_nums l (sumN acc t.nums) (fun x hx=>h x (by simp[hx])) (formed_sumN ha hs.2.2.2.2.1) (len_sumN hb hs.2.2.2.1)
theorem fold_arrs:∀ (l:List Ty) (acc:List Arr),(∀ t∈l,formedT t=true)→acc.length≤1→(l.foldl (fun a t=>sumAs a t.arrays) acc).length≤1
 | [],acc,_,hb=>hb
 | t::l,acc,h,hb=>fold_arrs l (sumAs acc t.arrays) (fun x hx=>h x (by simp[hx])) (len_sumAs _ _ hb (formedT_spec (h t (by simp))).2.2.2.2.2.1)
theorem flat_texts {NM:List S} {n:Nat}:∀ (ws:List (Nat × Ty)),okW NM n ws→((ws.map (·.2)).flatMap Ty.texts).length≤4*sumW ws∧((ws.map (·.2)).flatMap Ty.objects).length≤sumW ws
 | [],_=>by simp[sumW]
 | (k,t)::ws,hw=>by
   have h0:=bdT_iff.1 (hw (k,t) (by simp)).2.2
   have:=flat_texts ws fun p hp=>hw p (by simp[hp])
   simp only[List.map_cons,List.flatMap_cons,List.length_append,sumW,List.sum_cons] at *
   omega
theorem sumW_take (ws:List (Nat × Ty)) {k:Nat} (hk:k<ws.length):sumW (ws.take k)+ws[k].1≤sumW ws:=by
 have e:sumW (ws.take (k+1))=sumW (ws.take k)+ws[k].1:=by
  have e0:=List.take_succ_eq_append_getElem hk
  rw[sumW,e0,List.map_append,List.sum_append]
  rfl
 have:sumW ws=sumW (ws.take (k+1))+sumW (ws.drop (k+1)):=by
  simp only[sumW]
  rw[← List.sum_append,← List.map_append,List.take_append_drop]
 omega
theorem okW_take {NM:List S} {n:Nat} {ws:List (Nat × Ty)} (h:okW NM n ws) (k:Nat):okW NM n (ws.take k):=fun p hp=>h p (List.mem_of_mem_take hp)
set_option maxHeartbeats 1000000 in
theorem together_ws (hS:SortsS prog M.F_slices_Sort_string) (hC:CompactsS prog M.F_slices_Compact_string) (NM:List S) (n:Nat) (ws:List (Nat × Ty)) (hw:okW NM (n+1) ws) (hB:sumW ws≤4294967296)
 (ih:∀ ws' : List (Nat × Ty),okW NM n ws'→sumW ws'≤4294967296→(∃ p∈ws,p.2.arrays≠[])→Ret prog M.F_tidy_together [.vec 9 false ((ws'.map (·.2)).map encTy)] (.agg (cT (togetherP (ws'.map (·.2)))))) :
 Ret prog M.F_tidy_together [.vec 9 false ((ws.map (·.2)).map encTy)] (.agg (cT (togetherP (ws.map (·.2))))):=by
 have hlen:(ws.map (·.2)).length=ws.length:=by simp
 have htk:∀ k,(ws.map (·.2)).take k=(ws.take k).map (·.2):=fun k=>by rw[List.map_take]
 have hget:∀ k (hk:k<ws.length),(ws.map (·.2))[k]?.getD tNever=ws[k].2:=fun k hk=>by simp[hk]
 have hget' : ∀ k (hk:k<(ws.map (·.2)).length),(ws.map (·.2))[k]=(ws[k]'(by simpa using hk)).2:=fun k hk=>by simp
 have hfl:∀ t∈ws.map (·.2),formedT t=true:=fun t ht=>by
  obtain⟨p,hp,rfl⟩:=List.mem_map.1 ht
  exact (hw p hp).1
 have hft:∀ k,∀ t∈(ws.map (·.2)).take k,formedT t=true:=fun k t ht=>hfl t (List.mem_of_mem_take ht)
 refine together_step _ hfl (fun k hk=>?_) (fun k hk=>?_) (fun k hk=>?_) (fun k=>?_) hS hC (fun k hk=>?_)
 ·have hk' : k<ws.length:=by simpa using hk
  rw[hget k hk']
  have h1:=(fold_nums _ [] (hft k) (by simp) (by simp)).2
  have h2:=(formedT_spec (hw _ (List.getElem_mem hk')).1).2.2.2.1
  simp only[accT,Ty.nums_mk]
  omega
 ·have hk' : k<ws.length:=by simpa using hk
  rw[hget k hk']
  have h1:=(flat_texts _ (okW_take hw k)).1
  have h2:=(bdT_iff.1 (hw _ (List.getElem_mem hk')).2.2).1
  have h3:=sumW_take ws hk'
  simp only[accT,Ty.texts_mk,htk]
  omega
 ·have hk' : k<ws.length:=by simpa using hk
  rw[hget k hk']
  have h1:=(flat_texts _ (okW_take hw k)).2
  have h2:=(bdT_iff.1 (hw _ (List.getElem_mem hk')).2.2).2.1
  have h3:=sumW_take ws hk'
  simp only[accT,Ty.objects_mk,htk]
  omega
 ·exact (fold_nums _ [] (hft k) (by simp) (by simp)).1
 ·have hk' : k<ws.length:=by simpa using hk
  rw[hget' k hk]
  have h0:=hw _ (List.getElem_mem hk')
  have h3:=sumW_take ws hk'
  refine tidy_arrays_step _ _ ?_ fun x hx y hy=>?_
  ·have h1:=fold_arrs _ [] (hft k) (by simp)
   have h2:=(formedT_spec h0.1).2.2.2.2.2.1
   simp only[accT,Ty.arrays_mk]
   omega
  ·simp only[accT,Ty.arrays_mk,htk] at hx
   have hx':=fold_okA (ws.take k) [] 0 (okW_take hw k) (by simp) x hx
   rw[Nat.zero_add] at hx'
   have hy':=ok_types h0.1 h0.2.1 h0.2.2 y hy
   have fx:=(formedA_spec hx'.1).2.2.2.1
   have fy:=(formedA_spec hy'.1).2.2.2.1
   have:=ih [(sumW (ws.take k),x.item),(ws[k].1,y.item)] (fun p hp=>by
    simp only[List.mem_cons,List.not_mem_nil,or_false] at hp
    rcases hp with rfl|rfl
    ·exact⟨fx,hx'.2.1,hx'.2.2⟩
    ·exact⟨fy,hy'.2.1,hy'.2.2⟩) (by show sumW (ws.take k)+(ws[k].1+0)≤_; omega) ⟨_,List.getElem_mem hk',fun e=>by rw[e] at hy; cases hy⟩
   simp only[List.map_cons,List.map_nil] at this
   rwa [together_eq _ (fun t ht=>by
    simp only[List.mem_cons,List.not_mem_nil,or_false] at ht
    rcases ht with rfl|rfl
    ·exact fx
    ·exact fy),sumL_two fx] at this
theorem together_weighed (hS:SortsS prog M.F_slices_Sort_string) (hC:CompactsS prog M.F_slices_Compact_string) (NM:List S):∀ (n:Nat) (ws:List (Nat × Ty)),okW NM n ws→sumW ws≤4294967296 →
 Ret prog M.F_tidy_together [.vec 9 false ((ws.map (·.2)).map encTy)] (.agg (cT (togetherP (ws.map (·.2))))):=by
 intro n
 induction n with
 | zero =>
   intro ws hw hB
   refine together_ws hS hC NM 0 ws (fun p hp=>⟨(hw p hp).1,by have:=(hw p hp).2.1; omega,(hw p hp).2.2⟩) hB fun ws' _ _ ⟨p,hp,hne⟩=>?_
   exact absurd (height_le_zero.1 (hw p hp).2.1).1 hne
 | succ n ih =>
   intro ws hw hB
   exact together_ws hS hC NM n ws hw hB fun ws' h1 h2 _=>ih ws' h1 h2
theorem c_tidy_together (hS:SortsS prog M.F_slices_Sort_string) (hC:CompactsS prog M.F_slices_Compact_string) (NM:List S) (m:Nat) (l:List Ty) (hf:∀ t∈l,formedT t=true) (hb:∀ t∈l,bdT NM m t) (hB:l.length*m≤4294967296) :
 Ret prog M.F_tidy_together [.vec 9 false (l.map encTy)] (.agg (cT (sumL l))):=by
 have hn:∃ n,∀ t∈l,heightT t≤n:=by
  clear hB hf hb
  induction l with
  | nil=>exact⟨0,by simp⟩
  | cons t l ih =>
    obtain⟨n,hn⟩:=ih
    exact⟨max n (heightT t),fun x hx=>by
     rcases List.mem_cons.1 hx with rfl|hx
     ·omega
     ·have:=hn x hx; omega⟩
 obtain⟨n,hn⟩:=hn
 have e:(l.map fun t=>(m,t)).map (·.2)=l:=by simp[Function.comp_def]
 have e2:sumW (l.map fun t=>(m,t))=l.length*m:=by
  unfold sumW
  rw[List.map_map]
  clear e hB hf hb hn
  induction l with
  | nil=>simp
  | cons t l ih=>simp only[List.map_cons,List.sum_cons,ih,List.length_cons,Function.comp]; rw[Nat.add_mul]; omega
 have:=together_weighed hS hC NM n (l.map fun t=>(m,t)) (fun p hp=>by
  obtain⟨t,ht,rfl⟩:=List.mem_map.1 hp
  exact⟨hf t ht,hn t ht,hb t ht⟩) (by omega)
 rw[e] at this
 rwa [together_eq l hf] at this
end Go.Proofs.YtfilonnphgnplaaGreatDoor.Pv
namespace Go.Proofs.YtfilonnphgnplaaGreatDoor.Pv
open Go Go.Tidy
theorem sorts_ok:SortsS prog M.F_slices_Sort_string :=
 ⟨by kernel_rfl,fun blk off cap ss w hH hblk hsz=>AnyM.slices_Sort_string Tryz.sortA blk off cap ss w hH hblk hsz,fun p cap w=>AnyM.slices_Sort_string_none Tryz.sortA p cap w⟩
theorem compacts_ok:CompactsS prog M.F_slices_Compact_string :=
 ⟨by kernel_rfl,fun blk off cap zs w hH hsz hcap=>AnyG.slices_Compact_string Tryz.compactA blk off cap zs w hH hsz hcap,fun a cap w=>AnyG.slices_Compact_string_empty Tryz.compactA a cap w⟩
end Go.Proofs.YtfilonnphgnplaaGreatDoor.Pv
set_option maxRecDepth 100000
namespace Go.Proofs.YtfilonnphgnplaaGreatDoor.Pv
open Go Go.Tidy
set_option maxHeartbeats 4000000 in
theorem c_tidy_spare (o:Ob) (ho:formedO o=true) (hn:o.names.length≤34359738368):Ret prog M.F_tidy_spare [.agg (cO o)] (.agg (cO (spareO o))):=by
 refine Ret.go hmix h_tidy_spare (by simp) fun hb w0 F0 hG=>?_
 obtain⟨o1,o2,o3,o4,o5,o6⟩:=formedO_spec ho
 have hR:spareO o=ofTrip ((tripO o).filter fun p=>p.2.2||!sameT p.2.1 o.rest) o.rest:=rfl
 generalize spareO o=R at *
 have hT:=trip_len o1 o2
 simp
 intro v1 v2 v3
 obtain⟨J,hJ⟩ : ∃ J:Nat→List (S × Ty × Bool)→Prop,J=fun k l=>l=((tripO o).take k).filter fun p=>p.2.2||!sameT p.2.1 o.rest:=⟨_,rfl⟩
 refine XLoop.cntR hmix [(1000003,1,1000),(2000003,9,1001),(3000003,1,1002)] rfl o.names.length (fun v k l=>⟨[(12,.int .i64 k),(11,.int .i64 o.names.length),(10,.vec 1 false (o.names.map encStr)),(3,.ptr (3,v3) 12 0 0),(2,.ptr (2,v2) 12 0 0),(1,.ptr (1,v1) 12 0 0)],
  [((3,v3),some ⟨12,[oneC (.own (1000,v) 1 0 l.length false) (.own (1001,v) 9 0 l.length false) (.own (1002,v) 1 0 l.length false) o.rest],false,true⟩),((1000,v),some ⟨1,tN l,false,false⟩),((1001,v),some ⟨9,tF l,false,false⟩),((1002,v),some ⟨1,tM l,false,false⟩),((2,v2),some ⟨12,[M.z4],false,true⟩),((1,v1),some ⟨12,[cO o],false,true⟩)]⟩) J [] (by rw[hJ]; rfl) (by simp) fun v k l _ hk hj=>?_
 have hw:=wrap64 (n:=(k:Int)+1) (by omega) (by omega)
 have hj' : l=((tripO o).take k).filter fun p=>p.2.2||!sameT p.2.1 o.rest:=by rw[hJ] at hj; exact hj
 have hll:l.length≤k:=by
  rw[hj']; refine Nat.le_trans (List.length_filter_le _ _) ?_
  simp; omega
 by_cases g:k<o.names.length
 ·have g1:k<o.fields.length:=by omega
  have g2:k<o.must.length:=by omega
  have hs:=trip_get g g1 g2 (by omega)
  have hst:=filter_take (fun p:S × Ty × Bool=>p.2.2||!sameT p.2.1 o.rest) (l:=tripO o) (k:=k) (by omega)
  rw[hs,← hj'] at hst
  simp[g]
  refine XCut.go hmix ?_
  cases e1:o.must[k]
  ·simp[g,g1,g2,e1]
   intros
   refine XDCall.ret (c_shape_Same _ _ (o5 _ (List.getElem_mem g1)) o4) ?_
   cases e2:sameT o.fields[k] o.rest
   ·rw[if_pos (by simp[e2])] at hst
    simp[g,g1,g2,e1,e2,hw]
    exact fun _=>⟨by omega,fun _=>⟨by omega,fun _=>⟨by omega,l++[(o.names[k],o.fields[k],o.must[k])],by rw[hJ]; exact hst.symm,fun _=>by simp[e1]⟩⟩⟩
   ·rw[if_neg (by simp[e1,e2])] at hst
    simp[g,g1,g2,e1,e2,hw]
    exact⟨l,by rw[hJ]; exact hst.symm,fun _=>by simp⟩
  ·rw[if_pos (by simp[e1])] at hst
   simp[g,g1,g2,e1,hw]
   exact fun _=>⟨by omega,fun _=>⟨by omega,fun _=>⟨by omega,l++[(o.names[k],o.fields[k],o.must[k])],by rw[hJ]; exact hst.symm,fun _=>by simp[e1]⟩⟩⟩
 ·have e1:l=(tripO o).filter fun p=>p.2.2||!sameT p.2.1 o.rest:=by rw[hj',List.take_of_length_le (by omega)]
  rw[hR,← e1]
  simp[g,ofTrip]
set_option maxHeartbeats 4000000 in
theorem trimmed_step (h:Int) (N:Ty→Ty) (NM:List S) (B:Nat) (hN:NormOk M.F_tidy_normal h N NM B) (hNf:∀ t,formedT t=true→formedT (N t)=true) (h3:NM.length≤268435456) (hM:4*(NM.length+1)≤B) (o:Ob) (ho:formedO o=true) (hbo:bdO NM 4 o) :
 Ret prog M.F_tidy_trimmed [.agg (cO o),.int .i64 h] (.agg (cO (trimO N o))):=by
 refine Ret.go hmix h_tidy_trimmed (by simp) fun hb w0 F0 hG=>?_
 have hnl:o.names.length≤NM.length:=SS_len (formedO_SS ho) hbo.1
 have c0:=c_tidy_spare o ho (by omega)
 have hs:=formed_spareO ho
 have hsb:=bd_spareO hbo
 have hT:trimO N o=if (spareO o).names.length≤12 then spareO o else spareO (.mk ((spareO o).names.take 12) ((spareO o).fields.take 12) ((spareO o).must.take 12) (N (sumL ((spareO o).rest::(spareO o).fields.drop 12)))):=rfl
 generalize trimO N o=R at *
 generalize spareO o=p at *
 obtain⟨p1,p2,p3,p4,p5,p6⟩:=formedO_spec hs
 have hpl:p.names.length≤NM.length:=SS_len (formedO_SS hs) hsb.1
 simp
 intro v1 v2
 refine XCall.ret c0 ?_
 by_cases h12:p.names.length≤12
 ·have h12' : (p.names.length:Int)≤12:=by omega
  rw[if_pos h12] at hT
  simp[h12',hT]
 ·have h12' : ¬ (p.names.length:Int)≤12:=by omega
  rw[if_neg h12] at hT
  have hfl:∀ t∈p.rest::p.fields.drop 12,formedT t=true:=fun t ht=>by
   rcases List.mem_cons.1 ht with rfl|ht
   ·exact p4
   ·exact p5 t (List.mem_of_mem_drop ht)
  have hbl:∀ t∈p.rest::p.fields.drop 12,bdT NM 4 t:=fun t ht=>by
   rcases List.mem_cons.1 ht with rfl|ht
   ·exact hsb.2.2
   ·exact hsb.2.1 t (List.mem_of_mem_drop ht)
  have hll:(p.rest::p.fields.drop 12).length≤NM.length+1:=by simp; omega
  have cTg:=c_tidy_together sorts_ok compacts_ok NM 4 _ hfl hbl (by omega)
  have hfr:=formed_sumL hfl
  have hbr:bdT NM (4*(NM.length+1)) (sumL (p.rest::p.fields.drop 12)):=bd_mono (by omega) _ (bd_sumL hbl)
  generalize sumL (p.rest::p.fields.drop 12)=r at *
  have c2:=hN r _ hfr hbr hM
  have hmk:Ob.mk (p.names.take 12) (p.fields.take 12) (p.must.take 12) (N r)=ofTrip ((tripO p).take 12) (N r):=by
   obtain⟨t1,t2,t3⟩:=trip_names p1 p2
   unfold ofTrip
   rw[List.map_take,List.map_take,List.map_take,t1,t2,t3]
  have hfo:formedO (ofTrip ((tripO p).take 12) (N r))=true:=formed_trip hs (List.take_sublist _ _) (hNf r hfr)
  rw[← hmk] at hfo
  have c3:=c_tidy_spare _ hfo (by simp; omega)
  rw[← hT] at c3
  generalize N r=z at *
  have q1:(12:Int)≤p.fields.length:=by omega
  have q2:(12:Int)≤p.names.length:=by omega
  have q3:(12:Int)≤p.must.length:=by omega
  have q4:12≤p.fields.length:=by omega
  have q5:p.fields.length≤68719476735+12:=by omega
  have q6:1+(p.fields.length-12)≤68719476736:=by omega
  have et:List.take (p.fields.length-12) (List.drop 12 (List.map encTy p.fields))=(p.fields.drop 12).map encTy:=by
   rw[List.take_of_length_le (by simp),List.map_drop]
  have c4:Ret prog M.F_tidy_spare [.agg [.vec 1 false ((p.names.map encStr).take 12),.vec 9 false ((p.fields.map encTy).take 12),.vec 1 false ((p.must.map encBool).take 12),.bool z.all,.bool z.null,.bool z.fls,.bool z.tru,.vec 2 false (z.nums.map encSpan),.bool z.any,.vec 1 false (z.texts.map encStr),.vec 11 false (z.arrays.map encArr),.vec 12 false (z.objects.map encObj)]] (.agg (cO R)):=by
   rw[← List.map_take,← List.map_take,← List.map_take]
   exact c3
  have c5:Ret prog M.F_tidy_together [.vec 9 false (encTy p.rest::(p.fields.drop 12).map encTy)] (.agg (cT r)):=cTg
  have q7:p.fields.length-12+1=1+(p.fields.length-12):=by omega
  have et2:List.take (1+(p.fields.length-12)) (encTy p.rest::(p.fields.drop 12).map encTy)=encTy p.rest::(p.fields.drop 12).map encTy:=List.take_of_length_le (by simp; omega)
  simp[h12',q1,q2,q3,q4,q6,et]
  intro v15
  refine XDCall.ret (r:=.agg (cT r)) (by rw[← et2] at c5; simpa[q6,et] using c5) ?_
  simp
  refine⟨by omega,q2,q1,q3,?_⟩
  refine XCall.ret (r:=.agg (cT z)) (by simp; exact c2) ?_
  simp
  refine XCall.ret (r:=.agg (cO R)) (by simp; exact c4) ?_
  simp
set_option maxHeartbeats 4000000 in
theorem object_step (h:Int) (N:Ty→Ty) (NM:List S) (B m:Nat) (hN:NormOk M.F_tidy_normal h N NM B) (hNf:∀ t,formedT t=true→formedT (N t)=true) (hNn:∀ t,formedT t=true→never (N t)=never t) (hNb:∀ t m,bdT NM m t→bdT NM 4 (N t)) (h3:NM.length≤268435456) (hM:4*(NM.length+1)≤B) (o:Ob) (ho:formedO o=true) (hbo:bdO NM m o) (hm:m≤B) :
 Ret prog M.F_tidy_object [.agg (cO o),.int .i64 h] (.agg (cO (objectO N o))):=by
 refine Ret.go hmix h_tidy_object (by simp) fun hb w0 F0 hG=>?_
 obtain⟨o1,o2,o3,o4,o5,o6⟩:=formedO_spec ho
 have hT:objectO N o=trimO N (.mk o.names (o.fields.map N) o.must (N o.rest)):=rfl
 have hfo:formedO (.mk o.names (o.fields.map N) o.must (N o.rest))=true:=by
  refine formedO_intro (by simp[o1]) o2 o3 (hNf _ o4) (fun f hf=>?_) (fun p hp hm=>?_)
  ·obtain⟨t,ht,rfl⟩:=List.mem_map.1 hf
   exact hNf t (o5 t ht)
  ·simp only[Ob.fields_mk,Ob.must_mk] at hp
   have:(o.fields.map N).zip o.must=(o.fields.zip o.must).map fun p=>(N p.1,p.2):=by
    rw[← List.map_id o.must,List.zip_map]; simp
   rw[this] at hp
   obtain⟨x,hx,rfl⟩:=List.mem_map.1 hp
   rw[hNn _ (o5 _ (List.of_mem_zip hx).1)]
   exact o6 x hx hm
 have hbo' : bdO NM 4 (.mk o.names (o.fields.map N) o.must (N o.rest)):=⟨hbo.1,fun f hf=>by
  obtain⟨t,ht,rfl⟩:=List.mem_map.1 hf
  exact hNb t m (hbo.2.1 t ht),hNb _ m hbo.2.2⟩
 have c1:=trimmed_step h N NM B hN hNf h3 hM _ hfo hbo'
 rw[← hT] at c1
 generalize objectO N o=R at *
 have hnl:o.names.length≤NM.length:=SS_len (formedO_SS ho) hbo.1
 have c2:=hN o.rest m o4 hbo.2.2 hm
 simp
 intro v1 v2 v5
 obtain⟨J,hJ⟩ : ∃ J:Nat→List Ty→Prop,J=fun k fs=>fs=(o.fields.take k).map N:=⟨_,rfl⟩
 refine XLoop.cntR hmix [(5,9,1001)] rfl o.fields.length (fun v k (fs:List Ty)=>⟨[(12,.int .i64 k),(11,.int .i64 o.fields.length),(10,.vec 9 false (o.fields.map encTy)),(5,.own (1001,v) 9 0 fs.length false),(4,.ptr (4,v2) 12 0 0),(2,.ptr (2,v1) 12 0 0),(1,.int .i64 h)],
  [((1001,v),some ⟨9,fs.map encTy,false,false⟩),((4,v2),some ⟨12,[M.z4],false,true⟩),((2,v1),some ⟨12,[cO o],false,true⟩)]⟩) J [] (by rw[hJ]; rfl) (by simp) fun v k fs _ hk hj=>?_
 have hw:=wrap64 (n:=(k:Int)+1) (by omega) (by omega)
 have hj' : fs=(o.fields.take k).map N:=by rw[hJ] at hj; exact hj
 have hll:fs.length=k:=by rw[hj']; simp; omega
 by_cases g:k<o.fields.length
 ·have hst:=map_take' N g
  rw[← hj'] at hst
  have c3:=hN o.fields[k] m (o5 _ (List.getElem_mem g)) (hbo.2.1 _ (List.getElem_mem g)) hm
  simp[g]
  intros
  refine XCall.ret (r:=.agg (cT (N o.fields[k]))) (by simp; exact c3) ?_
  simp[hw,g]
  exact fun _=>⟨by omega,fs++[N o.fields[k]],by rw[hJ]; exact hst.symm,fun _=>by simp⟩
 ·have e1:fs=o.fields.map N:=by rw[hj',List.take_of_length_le (by omega)]
  rw[← e1] at c1
  generalize N o.rest=r at *
  have c4:Ret prog M.F_tidy_trimmed [.agg [.vec 1 false (o.names.map encStr),.vec 9 false (fs.map encTy),.vec 1 false (o.must.map encBool),.bool r.all,.bool r.null,.bool r.fls,.bool r.tru,.vec 2 false (r.nums.map encSpan),.bool r.any,.vec 1 false (r.texts.map encStr),.vec 11 false (r.arrays.map encArr),.vec 12 false (r.objects.map encObj)],.int .i64 h] (.agg (cO R)):=c1
  simp[g]
  intros
  refine XDCall.ret c2 ?_
  simp
  refine XDCall.ret (r:=.agg (cO R)) (by simpa using c4) ?_
  simp
end Go.Proofs.YtfilonnphgnplaaGreatDoor.Pv
set_option maxRecDepth 100000
namespace Go.Proofs.YtfilonnphgnplaaGreatDoor.Pv
open Go Go.Tidy
set_option maxHeartbeats 4000000 in
theorem c_tidy_laidOut (t:Ty) (ht:formedT t=true):Ret prog M.F_tidy_laidOut [.agg (cT t)] (.bool (sameT t laidAll)):=by
 have cs:=c_shape_Same t laidAll ht fit_laidAll.1
 refine Ret.go hmix h_tidy_laidOut (by simp) fun hb w0 F0 hG=>?_
 simp
 intros
 refine XDCall.ret c_shape_Every ?_
 simp
 refine XDCall.ret c_shape_Every ?_
 simp
 refine XDCall.ret (r:=.bool (sameT t laidAll)) (by simp; exact cs) ?_
 simp
section
variable {w0:World} {F0:Nat→Prop} {hG:GOk prog w0 F0}
set_option maxHeartbeats 4000000 in
theorem tnormal_l2 (h:Int) (t:Ty) (v2 v4 v5:Nat) (any:Bool) (texts:List S) (az:List Arr) (os:List Ob) (wf:Ob→Ob) (hh:IntKind.i64.wrap (h-1)=h-1) (hf:formedT (.mk false t.null t.fls t.tru t.nums any texts az os)=true) (hl:t.objects.length≤34359738368)
 (hW:∀ o∈t.objects,Ret prog M.F_tidy_object [.agg (cO o),.int .i64 (h-1)] (.agg (cO (wf o))))
 (hO:Ret prog M.F_tidy_objects [.vec 12 false ((t.objects.map wf).map encObj),.int .i64 (h-1)] (.vec 12 false (os.map encObj))) :
 ∀ st:St,(∀ v,LS (canonF [(9000005,12,1008)] v st) ⟨[(59,.int .i64 0),(58,.int .i64 t.objects.length),(57,.vec 12 false (t.objects.map encObj)),(5,.ptr (5,v5) 9 0 0),(4,.ptr (4,v4) 9 0 0),(2,.ptr (2,v2) 9 0 0),(1,.int .i64 h)],[((5,v5),some ⟨9,[outC t any (.vec 1 false (texts.map encStr)) (.vec 11 false (az.map encArr)) (.own (1008,v) 12 0 0 false)],false,true⟩),((1008,v),some ⟨12,[],false,false⟩),((4,v4),some ⟨9,[M.z1],false,true⟩),((2,v2),some ⟨9,[cT t],false,true⟩)]⟩) →
 XLoop ⟨prog,w0,F0,83,[],0,hG⟩ (.loop M.b_tidy_normal_2) st [.bk 2,.sq M.t_tidy_normal_0]
  (retIs M.rs_tidy_normal (.agg (cT (if sameT (.mk false t.null t.fls t.tru t.nums any texts az os) laidAll then tEvery else .mk false t.null t.fls t.tru t.nums any texts az os)))):=by
 have cs:=c_tidy_laidOut (.mk false t.null t.fls t.tru t.nums any texts az os) hf
 obtain⟨R,hR⟩ : ∃ R,R=(if sameT (.mk false t.null t.fls t.tru t.nums any texts az os) laidAll then tEvery else Ty.mk false t.null t.fls t.tru t.nums any texts az os):=⟨_,rfl⟩
 rw[← hR]
 intro st hst0
 obtain⟨J,hJ⟩ : ∃ J:Nat→List Ob→Prop,J=fun k acc=>acc=(t.objects.take k).map wf:=⟨_,rfl⟩
 refine XLoop.cntR hmix [(9000005,12,1008)] rfl t.objects.length (fun v k (acc:List Ob)=>⟨[(59,.int .i64 k),(58,.int .i64 t.objects.length),(57,.vec 12 false (t.objects.map encObj)),(5,.ptr (5,v5) 9 0 0),(4,.ptr (4,v4) 9 0 0),(2,.ptr (2,v2) 9 0 0),(1,.int .i64 h)],[((5,v5),some ⟨9,[outC t any (.vec 1 false (texts.map encStr)) (.vec 11 false (az.map encArr)) (.own (1008,v) 12 0 acc.length false)],false,true⟩),((1008,v),some ⟨12,acc.map encObj,false,false⟩),((4,v4),some ⟨9,[M.z1],false,true⟩),((2,v2),some ⟨9,[cT t],false,true⟩)]⟩) J [] (by rw[hJ]; rfl) (by simpa using hst0) fun v k acc _ hk hj=>?_
 have hw:=wrap64 (n:=(k:Int)+1) (by omega) (by omega)
 have hj' : acc=(t.objects.take k).map wf:=by rw[hJ] at hj; exact hj
 have hal:acc.length=k:=by rw[hj']; simp; omega
 by_cases g:k<t.objects.length
 ·have hst:=map_take' wf g
  rw[← hj'] at hst
  simp[g,hh]
  intros
  refine XDCall.ret (hW _ (List.getElem_mem g)) ?_
  simp[g,hw]
  exact⟨by omega,acc++[wf t.objects[k]],by rw[hJ]; exact hst.symm,fun _=>by simp⟩
 ·have e1:acc=t.objects.map wf:=by rw[hj',List.take_of_length_le (by omega)]
  rw[← e1] at hO
  simp[g,hh]
  refine XCall.ret (r:=.vec 12 false (os.map encObj)) (by simpa using hO) ?_
  simp
  refine XCall.ret (r:=.bool (sameT (.mk false t.null t.fls t.tru t.nums any texts az os) laidAll)) (by simp; exact cs) ?_
  cases hs:sameT (.mk false t.null t.fls t.tru t.nums any texts az os) laidAll<;>rw[hs] at hR
  ·simp[hR]
  ·simp
   refine XCall.ret c_shape_Every ?_
   simp[hR,tEvery]
set_option maxHeartbeats 4000000 in
theorem tnormal_t2 (h:Int) (t:Ty) (v2 v4 v5:Nat) (any:Bool) (texts:List S) (os:List Ob) (wf:Ob→Ob) (n:Ty→Ty) (hh:IntKind.i64.wrap (h-1)=h-1) (hf:formedT (.mk false t.null t.fls t.tru t.nums any texts (t.arrays.map fun a=>.mk (n a.item) a.min a.max) os)=true) (hl:t.objects.length≤34359738368)
 (ha:t.arrays.length≤1) (hA:∀ a∈t.arrays,Ret prog M.F_tidy_normal [.agg (cT a.item),.int .i64 (h-1)] (.agg (cT (n a.item))))
 (hW:∀ o∈t.objects,Ret prog M.F_tidy_object [.agg (cO o),.int .i64 (h-1)] (.agg (cO (wf o))))
 (hO:Ret prog M.F_tidy_objects [.vec 12 false ((t.objects.map wf).map encObj),.int .i64 (h-1)] (.vec 12 false (os.map encObj))) (arr0 obj0:PV) :
 XC ⟨prog,w0,F0,83,[],0,hG⟩ M.t_tidy_normal_2 ⟨[(5,.ptr (5,v5) 9 0 0),(4,.ptr (4,v4) 9 0 0),(2,.ptr (2,v2) 9 0 0),(1,.int .i64 h)],[((5,v5),some ⟨9,[outC t any (.vec 1 false (texts.map encStr)) arr0 obj0],false,true⟩),((4,v4),some ⟨9,[M.z1],false,true⟩),((2,v2),some ⟨9,[cT t],false,true⟩)]⟩ []
  (retIs M.rs_tidy_normal (.agg (cT (if sameT (.mk false t.null t.fls t.tru t.nums any texts (t.arrays.map fun a=>.mk (n a.item) a.min a.max) os) laidAll then tEvery else .mk false t.null t.fls t.tru t.nums any texts (t.arrays.map fun a=>.mk (n a.item) a.min a.max) os)))):=by
 have fin:=tnormal_l2 (w0:=w0) (F0:=F0) (hG:=hG) h t v2 v4 v5 any texts _ os wf hh hf hl hW hO
 generalize hAs:(t.arrays.map fun a=>Arr.mk (n a.item) a.min a.max)=az at *
 generalize (if sameT (.mk false t.null t.fls t.tru t.nums any texts az os) laidAll then tEvery else Ty.mk false t.null t.fls t.tru t.nums any texts az os)=R at *
 simp
 obtain⟨J,hJ⟩ : ∃ J:Nat→List Arr→Prop,J=fun k acc=>acc=(t.arrays.take k).map fun a=>.mk (n a.item) a.min a.max:=⟨_,rfl⟩
 refine XLoop.cntR hmix [(8000005,11,1007)] rfl t.arrays.length (fun v k (acc:List Arr)=>⟨[(39,.int .i64 k),(38,.int .i64 t.arrays.length),(37,.vec 11 false (t.arrays.map encArr)),(5,.ptr (5,v5) 9 0 0),(4,.ptr (4,v4) 9 0 0),(2,.ptr (2,v2) 9 0 0),(1,.int .i64 h)],[((5,v5),some ⟨9,[outC t any (.vec 1 false (texts.map encStr)) (.own (1007,v) 11 0 acc.length false) (.vec 12 true [])],false,true⟩),((1007,v),some ⟨11,acc.map encArr,false,false⟩),((4,v4),some ⟨9,[M.z1],false,true⟩),((2,v2),some ⟨9,[cT t],false,true⟩)]⟩) J [] (by rw[hJ]; rfl) (by simp) fun v k acc _ hk hj=>?_
 have hw:=wrap64 (n:=(k:Int)+1) (by omega) (by omega)
 have hj' : acc=(t.arrays.take k).map fun a=>.mk (n a.item) a.min a.max:=by rw[hJ] at hj; exact hj
 have hal:acc.length=k:=by rw[hj']; simp; omega
 by_cases g:k<t.arrays.length
 ·have hst:=map_take' (fun a:Arr=>Arr.mk (n a.item) a.min a.max) g
  rw[← hj'] at hst
  simp[g,hh]
  intros
  refine XCall.ret (hA _ (List.getElem_mem g)) ?_
  simp[g,hw]
  exact fun _=>⟨by omega,acc++[.mk (n t.arrays[k].item) t.arrays[k].min t.arrays[k].max],by rw[hJ]; exact hst.symm,fun _=>by simp; exact leR_refl _ _⟩
 ·have e1:acc=az:=by rw[hj',List.take_of_length_le (by omega),hAs]
  simp[g]
  exact fin _ fun v=>by simp[e1]
theorem tnormal_every (h:Int) (t:Ty) (hz:t.all=true∨(h=0∧(t.arrays≠[]∨t.objects≠[]))):Ret prog M.F_tidy_normal [.agg (cT t),.int .i64 h] (.agg (cT tEvery)):=by
 refine Ret.go hmix h_tidy_normal (by simp) fun hb w0 F0 hG=>?_
 simp only[bndL,bndV,List.length_map,LIM,and_true] at hb
 cases e0:t.all
 ·obtain⟨h1,h2⟩ : h=0∧(t.arrays≠[]∨t.objects≠[]):=by simpa[e0] using hz
  have hl:0<(t.arrays.length:Int)+t.objects.length:=by
   rcases h2 with h2|h2
   ·have:=List.length_pos_iff.2 h2; omega
   ·have:=List.length_pos_iff.2 h2; omega
  have w:=wrap64 (n:=(t.arrays.length:Int)+t.objects.length) (by omega) (by omega)
  simp[e0,h1,hl,w]
  intros
  refine XCall.ret c_shape_Every ?_
  simp[tEvery]
 ·simp[e0]
  intros
  refine XCall.ret c_shape_Every ?_
  simp[tEvery]
set_option maxHeartbeats 4000000 in
theorem tnormal_step (h:Int) (t:Ty) (os:List Ob) (wf:Ob→Ob) (n:Ty→Ty) (h1 : -9223372036854775807≤h) (h2:h≤9223372036854775807) (e0:t.all=false) (e1:h=0→t.arrays=[]∧t.objects=[])
 (hf:formedT (.mk false t.null t.fls t.tru t.nums (t.any||decide (16<t.texts.length)) (if 16<t.texts.length then [] else t.texts) (t.arrays.map fun a=>.mk (n a.item) a.min a.max) os)=true) (hl:t.objects.length≤34359738368) (ha:t.arrays.length≤1)
 (hA:∀ a∈t.arrays,Ret prog M.F_tidy_normal [.agg (cT a.item),.int .i64 (h-1)] (.agg (cT (n a.item))))
 (hW:∀ o∈t.objects,Ret prog M.F_tidy_object [.agg (cO o),.int .i64 (h-1)] (.agg (cO (wf o))))
 (hO:Ret prog M.F_tidy_objects [.vec 12 false ((t.objects.map wf).map encObj),.int .i64 (h-1)] (.vec 12 false (os.map encObj))) :
 Ret prog M.F_tidy_normal [.agg (cT t),.int .i64 h] (.agg (cT (finT t (t.arrays.map fun a=>.mk (n a.item) a.min a.max) os))):=by
 refine Ret.go hmix h_tidy_normal (by simp) fun hb w0 F0 hG=>?_
 have hh:=wrap64 (n:=h-1) (by omega) (by omega)
 have fin:=fun v2 v4 v5=>tnormal_t2 (w0:=w0) (F0:=F0) (hG:=hG) h t v2 v4 v5 _ _ os wf n hh hf hl ha hA hW hO (.vec 11 false (t.arrays.map encArr)) (.vec 12 false (t.objects.map encObj))
 have hR:finT t (t.arrays.map fun a=>.mk (n a.item) a.min a.max) os=(if sameT (.mk false t.null t.fls t.tru t.nums (t.any||decide (16<t.texts.length)) (if 16<t.texts.length then [] else t.texts) (t.arrays.map fun a=>.mk (n a.item) a.min a.max) os) laidAll then tEvery else Ty.mk false t.null t.fls t.tru t.nums (t.any||decide (16<t.texts.length)) (if 16<t.texts.length then [] else t.texts) (t.arrays.map fun a=>.mk (n a.item) a.min a.max) os):=rfl
 rw[← hR] at fin
 generalize finT t (t.arrays.map fun a=>Arr.mk (n a.item) a.min a.max) os=R at *
 have key:∀ v2 v4 v5 (st:St),(∀ v,LS (canonF [] v st) ⟨[(5,.ptr (5,v5) 9 0 0),(4,.ptr (4,v4) 9 0 0),(2,.ptr (2,v2) 9 0 0),(1,.int .i64 h)],[((5,v5),some ⟨9,[outC t t.any (.vec 1 false (t.texts.map encStr)) (.vec 11 false (t.arrays.map encArr)) (.vec 12 false (t.objects.map encObj))],false,true⟩),((4,v4),some ⟨9,[M.z1],false,true⟩),((2,v2),some ⟨9,[cT t],false,true⟩)]⟩) →
  XCut ⟨prog,w0,F0,83,[],0,hG⟩ M.c_tidy_normal_0 st [.sq M.t_tidy_normal_2] (retIs M.rs_tidy_normal (.agg (cT R))):=fun v2 v4 v5 st hst=>by
  refine XCut.anew [] rfl _ hst fun _ _=>?_
  refine XCut.oneR hmix [] rfl (fun _=>⟨[(5,.ptr (5,v5) 9 0 0),(4,.ptr (4,v4) 9 0 0),(2,.ptr (2,v2) 9 0 0),(1,.int .i64 h)],[((5,v5),some ⟨9,[outC t (t.any||decide (16<t.texts.length)) (.vec 1 false ((if 16<t.texts.length then [] else t.texts).map encStr)) (.vec 11 false (t.arrays.map encArr)) (.vec 12 false (t.objects.map encObj))],false,true⟩),((4,v4),some ⟨9,[M.z1],false,true⟩),((2,v2),some ⟨9,[cT t],false,true⟩)]⟩) ?_ fun _ _=>by rw[XE_sq]; exact fin v2 v4 v5
  by_cases h16:16<t.texts.length
  ·have h16' : (16:Int)<t.texts.length:=by omega
   simp[h16,h16']
  ·have h16' : ¬ (16:Int)<t.texts.length:=by omega
   simp[h16,h16']
 by_cases hz:h=0
 ·obtain⟨z1,z2⟩:=e1 hz
  have w0':=wrap64 (n:=0) (by omega) (by omega)
  simp[e0,hz,z1,z2,w0']
  rw[hz] at key
  exact fun v2 v4 v5=>key v2 v4 v5 _ fun v=>by simp[z1,z2,e0]
 ·simp[e0,hz]
  exact fun v2 v4 v5=>key v2 v4 v5 _ fun v=>by simp[e0]
end
end Go.Proofs.YtfilonnphgnplaaGreatDoor.Pv
set_option maxRecDepth 100000
namespace Go.Proofs.YtfilonnphgnplaaGreatDoor.Pv
open Go Go.Tidy
def addP (P:Ty→Nat) (n:Nat) (f:Ty):Nat:=if n≤200 then n+P f else n
def objP (P:Ty→Nat) (n:Nat) (o:Ob):Nat:=(o.fields++[o.rest]).foldl (addP P) n
theorem foldP_bd (P:Ty→Nat) (B:Nat):∀ (l:List Ty) (n:Nat),(∀ f∈l,P f≤B)→n≤200+B→l.foldl (addP P) n≤200+B
 | [],n,_,h=>h
 | f::l,n,hl,h=>foldP_bd P B l _ (fun x hx=>hl x (by simp[hx])) (by
     have:=hl f (by simp)
     unfold addP; split<;>omega)
theorem objP_bd (P:Ty→Nat) (B:Nat) (l:List Ob) (n:Nat) (hl:∀ o∈l,(∀ f∈o.fields,P f≤B)∧P o.rest≤B) (h:n≤200+B):l.foldl (objP P) n≤200+B:=by
 induction l generalizing n with
 | nil=>exact h
 | cons o l ih =>
   refine ih _ (fun x hx=>hl x (by simp[hx])) (foldP_bd P B _ n (fun f hf=>?_) h)
   have:=hl o (by simp)
   rcases List.mem_append.1 hf with hf|hf
   ·exact this.1 f hf
   ·rw[List.mem_singleton.1 hf]; exact this.2
theorem map_take_app {l:List Ty} {P:Ty→Nat} {n k:Nat} (hk:k<l.length):(l.take (k+1)).foldl (addP P) n=addP P ((l.take k).foldl (addP P) n) l[k]:=by
 rw[List.take_add_one,List.getElem?_eq_getElem hk]
 simp only[Option.toList_some,List.foldl_append,List.foldl_cons,List.foldl_nil]
set_option maxHeartbeats 4000000 in
theorem tparts_step (t:Ty) (P:Ty→Nat) (B:Nat) (hB:B≤1099511627776) (ha1:t.arrays.length≤1)
 (ha:∀ a∈t.arrays,Ret prog M.F_tidy_parts [.agg (cT a.item)] (.int .i64 (P a.item:Nat))∧P a.item≤B)
 (hr:∀ o∈t.objects,Ret prog M.F_tidy_parts [.agg (cT o.rest)] (.int .i64 (P o.rest:Nat))∧P o.rest≤B)
 (hf:∀ o∈t.objects,∀ x∈o.fields,Ret prog M.F_tidy_parts [.agg (cT x)] (.int .i64 (P x:Nat))∧P x≤B)
 (hlo:∀ o∈t.objects,o.fields.length≤34359738368) :
 Ret prog M.F_tidy_parts [.agg (cT t)] (.int .i64 (t.objects.foldl (objP P) (t.arrays.foldl (fun n a=>n+P a.item) 1):Nat)):=by
 refine Ret.go hmix h_tidy_parts (by simp) fun hb w0 F0 hG=>?_
 simp only[bndL,bndV,List.length_map,LIM,and_true] at hb
 generalize hR:t.objects.foldl (objP P) (t.arrays.foldl (fun n a=>n+P a.item) 1)=R
 simp
 intro v
 obtain⟨J,hJ⟩ : ∃ J:Nat→Nat→Prop,J=fun k m=>m=(t.arrays.take k).foldl (fun n a=>n+P a.item) 1:=⟨_,rfl⟩
 refine XLoop.cnt hmix t.arrays.length (fun (k m:Nat)=>⟨[(13,.int .i64 k),(12,.int .i64 t.arrays.length),(11,.vec 11 false (t.arrays.map encArr)),(3,.int .i64 (m:Nat)),(1,.ptr (1,v) 9 0 0)],[((1,v),some ⟨9,[cT t],false,true⟩)]⟩) J 1 (by simp[hJ]) (by simp) fun k m hk hj=>?_
 have hw:=wrap64 (n:=(k:Int)+1) (by omega) (by omega)
 have hj' : m=(t.arrays.take k).foldl (fun n a=>n+P a.item) 1:=by rw[hJ] at hj; exact hj
 by_cases h1:k<t.arrays.length
 ·obtain rfl:k=0:=by omega
  have hm:m=1:=by simpa using hj'
  have h0:=ha t.arrays[0] (List.getElem_mem h1)
  have w2:=wrap64 (n:=(m:Int)+P t.arrays[0].item) (by omega) (by omega)
  simp[h1]
  intro v5
  refine XCall.ret h0.1 ?_
  have k1:=wrap64 (n:=1) (by omega) (by omega)
  simp[hw,w2,h1,k1]
  exact⟨m+P t.arrays[0].item,by
   rw[hJ]
   show _=(t.arrays.take 1).foldl _ 1
   rw[List.take_add_one,List.getElem?_eq_getElem h1]
   simp[hm],by simp⟩
 ·have hm:m=t.arrays.foldl (fun n a=>n+P a.item) 1:=by rw[hj',List.take_of_length_le (by omega)]
  have hmB:m≤200+B:=by
   rw[hm]
   match hA:t.arrays with
   | []=>simp; omega
   | [a]=>have:=(ha a (by simp[hA])).2; simp; omega
   | a::b::r=>rw[hA] at ha1; simp at ha1
  rw[← hm] at hR
  simp[h1]
  clear hj hj' hJ J
  obtain⟨J,hJ⟩ : ∃ J:Nat→Nat→Prop,J=fun k n=>n=(t.objects.take k).foldl (objP P) m:=⟨_,rfl⟩
  refine XLoop.cnt hmix t.objects.length (fun (k n:Nat)=>⟨[(26,.int .i64 k),(25,.int .i64 t.objects.length),(24,.vec 12 false (t.objects.map encObj)),(3,.int .i64 (n:Nat)),(1,.ptr (1,v) 9 0 0)],[((1,v),some ⟨9,[cT t],false,true⟩)]⟩) J m (by simp[hJ]) (by simp) fun i n hi hj=>?_
  have hw:=wrap64 (n:=(i:Int)+1) (by omega) (by omega)
  have hj' : n=(t.objects.take i).foldl (objP P) m:=by rw[hJ] at hj; exact hj
  by_cases h2:i<t.objects.length
  ·have hnB:n≤200+B:=by
      rw[hj']
      exact objP_bd P B _ m (fun o ho=>⟨fun f hf'=>(hf o (List.mem_of_mem_take ho) f hf').2,(hr o (List.mem_of_mem_take ho)).2⟩) hmB
   have hst:(t.objects.take (i+1)).foldl (objP P) m=objP P n t.objects[i]:=by
    rw[List.take_add_one,List.getElem?_eq_getElem h2]
    simp only[Option.toList_some,List.foldl_append,List.foldl_cons,List.foldl_nil,hj']
   have hro:=hr _ (List.getElem_mem h2)
   have hfo:=hf _ (List.getElem_mem h2)
   have hlo':=hlo _ (List.getElem_mem h2)
   generalize ho:t.objects[i]=o at *
   have q0:o.fields.length≤68719476735:=by omega
   have hl2:(o.fields++[o.rest]).length=o.fields.length+1:=by simp
   have hall:∀ f∈o.fields++[o.rest],Ret prog M.F_tidy_parts [.agg (cT f)] (.int .i64 (P f:Nat))∧P f≤B:=fun f hf=>by
    rcases List.mem_append.1 hf with hf|hf
    ·exact hfo f hf
    ·rw[List.mem_singleton.1 hf]; exact hro
   have hoP:objP P n o=(o.fields++[o.rest]).foldl (addP P) n:=rfl
   obtain⟨L,hL⟩ : ∃ L,L=o.fields++[o.rest]:=⟨_,rfl⟩
   have hLl:L.length=o.fields.length+1:=by rw[hL,hl2]
   obtain⟨J',hJ'⟩ : ∃ J:Nat→Nat→Prop,J=fun j p=>p=(L.take j).foldl (addP P) n:=⟨_,rfl⟩
   have ne:o.fields≠[]→nilV true (o.fields.map encTy)=false:=fun h=>by cases hf:o.fields<;>simp[nilV] ; exact absurd hf h
   rcases Classical.em (o.fields=[]) with e|e
   ·simp[h2,q0,ho,e,nilV]
    intro v7 v42
    refine XLoop.cntR hmix [(42,9,1042)] rfl L.length (fun v' j (p:Nat)=>⟨[(44,.int .i64 j),(43,.int .i64 L.length),(42,.own (1042,v') 9 0 L.length false),(3,.int .i64 (p:Nat)),(26,.int .i64 i),(25,.int .i64 t.objects.length),(24,.vec 12 false (t.objects.map encObj)),(1,.ptr (1,v) 9 0 0)],[((1042,v'),some ⟨9,L.map encTy,false,false⟩),((1,v),some ⟨9,[cT t],false,true⟩)]⟩) J' n (by rw[hJ']; rfl) (fun v'=>by simp[hL,e,leR_refl]) fun v' j p _ hj2 hjj=>?_
    have hw':=wrap64 (n:=(j:Int)+1) (by omega) (by omega)
    have hjj' : p=(L.take j).foldl (addP P) n:=by rw[hJ'] at hjj; exact hjj
    have hpB:p≤200+B:=by
     rw[hjj']
     exact foldP_bd P B _ n (fun f hf=>(hall f (by rw[← hL]; exact List.mem_of_mem_take hf)).2) hnB
    by_cases h3:j<L.length
    ·have hc:=hall L[j] (by rw[← hL]; exact List.getElem_mem h3)
     have w2:=wrap64 (n:=(p:Int)+P L[j]) (by omega) (by omega)
     have hst2:=map_take_app (P:=P) (n:=n) h3
     rw[← hjj'] at hst2
     simp[h3]
     intro v9
     refine XCut.go hmix ?_
     by_cases h200:p≤200
     ·have h200' : (p:Int)≤200:=by omega
      simp[h200,h200']
      refine XCall.ret hc.1 ?_
      simp[w2,hw',h3]
      exact⟨p+P L[j],by rw[hJ']; show _=_; rw[hst2]; simp[addP,h200],by omega⟩
     ·have h200' : ¬ (p:Int)≤200:=by omega
      simp[h200,h200',hw',h3]
      exact⟨p,by rw[hJ']; show _=_; rw[hst2]; simp[addP,h200],rfl⟩
    ·have hp:p=objP P n o:=by rw[hjj',List.take_of_length_le (by omega),hL,hoP]
     simp[h3,hw,h2]
     exact⟨p,by rw[hJ]; show _=_; rw[hst]; exact hp,rfl⟩
   ·simp[h2,q0,ho,ne e]
    intro v7 v42
    refine XLoop.cntR hmix [(42,9,1042)] rfl L.length (fun v' j (p:Nat)=>⟨[(44,.int .i64 j),(43,.int .i64 L.length),(42,.own (1042,v') 9 0 L.length false),(3,.int .i64 (p:Nat)),(26,.int .i64 i),(25,.int .i64 t.objects.length),(24,.vec 12 false (t.objects.map encObj)),(1,.ptr (1,v) 9 0 0)],[((1042,v'),some ⟨9,L.map encTy,false,false⟩),((1,v),some ⟨9,[cT t],false,true⟩)]⟩) J' n (by rw[hJ']; rfl) (fun v'=>by simp[hL,e,leR_refl]) fun v' j p _ hj2 hjj=>?_
    have hw':=wrap64 (n:=(j:Int)+1) (by omega) (by omega)
    have hjj' : p=(L.take j).foldl (addP P) n:=by rw[hJ'] at hjj; exact hjj
    have hpB:p≤200+B:=by
     rw[hjj']
     exact foldP_bd P B _ n (fun f hf=>(hall f (by rw[← hL]; exact List.mem_of_mem_take hf)).2) hnB
    by_cases h3:j<L.length
    ·have hc:=hall L[j] (by rw[← hL]; exact List.getElem_mem h3)
     have w2:=wrap64 (n:=(p:Int)+P L[j]) (by omega) (by omega)
     have hst2:=map_take_app (P:=P) (n:=n) h3
     rw[← hjj'] at hst2
     simp[h3]
     intro v9
     refine XCut.go hmix ?_
     by_cases h200:p≤200
     ·have h200' : (p:Int)≤200:=by omega
      simp[h200,h200']
      refine XCall.ret hc.1 ?_
      simp[w2,hw',h3]
      exact⟨p+P L[j],by rw[hJ']; show _=_; rw[hst2]; simp[addP,h200],by omega⟩
     ·have h200' : ¬ (p:Int)≤200:=by omega
      simp[h200,h200',hw',h3]
      exact⟨p,by rw[hJ']; show _=_; rw[hst2]; simp[addP,h200],rfl⟩
    ·have hp:p=objP P n o:=by rw[hjj',List.take_of_length_le (by omega),hL,hoP]
     simp[h3,hw,h2]
     exact⟨p,by rw[hJ]; show _=_; rw[hst]; exact hp,rfl⟩
  ·have:n=R:=by rw[hj',List.take_of_length_le (by omega),hR]
   simp[h2,this]
end Go.Proofs.YtfilonnphgnplaaGreatDoor.Pv
set_option maxRecDepth 100000
namespace Go.Proofs.YtfilonnphgnplaaGreatDoor.Pv
open Go Go.Tidy
def cntOk (n e:Nat):Prop:=(n≤200→n=e)∧(200<n→200<e)
theorem cntOk_add {P:Ty→Nat} {n e:Nat} {f:Ty} (h:cntOk n e) (hf:cntOk (P f) (partsT f)):cntOk (addP P n f) (e+partsT f):=by
 obtain⟨h1,h2⟩:=h
 obtain⟨f1,f2⟩:=hf
 unfold addP cntOk
 by_cases g:n≤200
 ·have:=h1 g
  simp only[g,if_true]
  by_cases g2:P f≤200
  ·have:=f1 g2; omega
  ·have:=f2 (by omega); omega
 ·have:=h2 (by omega)
  rw[if_neg g]
  exact⟨fun h=>absurd h g,fun _=>by omega⟩
theorem cntOk_fold {P:Ty→Nat}:∀ (l:List Ty) {n e:Nat},cntOk n e→(∀ f∈l,cntOk (P f) (partsT f))→cntOk (l.foldl (addP P) n) (e+partsTs l)
 | [],n,e,h,_=>by simpa[partsTs] using h
 | f::l,n,e,h,hl=>by
   have:=cntOk_fold l (cntOk_add h (hl f (by simp))) fun x hx=>hl x (by simp[hx])
   have e2:e+partsT f+partsTs l=e+partsTs (f::l):=by simp[partsTs]; omega
   rwa [e2] at this
theorem partsTs_app (l:List Ty) (t:Ty):partsTs (l++[t])=partsTs l+partsT t:=by
 induction l with
 | nil=>simp[partsTs]
 | cons a l ih=>simp only[List.cons_append,partsTs,ih]; omega
theorem cntOk_objs {P:Ty→Nat}:∀ (l:List Ob) {n e:Nat},cntOk n e→(∀ o∈l,(∀ f∈o.fields,cntOk (P f) (partsT f))∧cntOk (P o.rest) (partsT o.rest))→cntOk (l.foldl (objP P) n) (e+partsOs l)
 | [],n,e,h,_=>by simpa[partsOs] using h
 | o::l,n,e,h,hl=>by
   have h0:=hl o (by simp)
   have h1:=cntOk_fold (P:=P) (o.fields++[o.rest]) h fun f hf=>by
    rcases List.mem_append.1 hf with hf|hf
    ·exact h0.1 f hf
    ·rw[List.mem_singleton.1 hf]; exact h0.2
   have:=cntOk_objs l h1 fun x hx=>hl x (by simp[hx])
   obtain⟨ns,fs,ms,r⟩:=o
   simp only[Ob.fields_mk,Ob.rest_mk,partsTs_app] at this
   have e2:e+(partsTs fs+partsT r)+partsOs l=e+partsOs (.mk ns fs ms r::l):=by simp[partsOs]; omega
   rwa [e2] at this
theorem parts_ex:∀ (n:Nat),n≤1073741824→∀ t:Ty,FitT t→heightT t≤n→∃ p:Nat,Ret prog M.F_tidy_parts [.agg (cT t)] (.int .i64 (p:Nat))∧cntOk p (partsT t)∧p≤201+200*n:=by
 intro n
 induction n with
 | zero =>
   intro _ t ht hh
   have h0:=height_le_zero.1 hh
   have:=tparts_step t (fun _=>0) 0 (by omega) (by simp[h0.1]) (by simp[h0.1]) (by simp[h0.2]) (by simp[h0.2]) (by simp[h0.2])
   rw[h0.1,h0.2] at this
   exact⟨1,this,by rw[parts_zero hh]; exact⟨fun _=>rfl,fun h=>by omega⟩,by omega⟩
 | succ n ih =>
   intro hn t ht hh
   have hs:=height_le_succ.1 hh
   have hch:∀ x:Ty,∃ p:Nat,FitT x→heightT x≤n→Ret prog M.F_tidy_parts [.agg (cT x)] (.int .i64 (p:Nat))∧cntOk p (partsT x)∧p≤201+200*n:=fun x=>by
    by_cases hx:FitT x∧heightT x≤n
    ·obtain⟨p,hp⟩:=ih (by omega) x hx.1 hx.2
     exact⟨p,fun _ _=>hp⟩
    ·exact⟨0,fun a b=>absurd ⟨a,b⟩ hx⟩
   obtain⟨P,hP⟩:=Classical.axiomOfChoice hch
   have fA:∀ a∈t.arrays,_:=fun a ha=>hP a.item (ht.item ha) (hs.1 a ha)
   have fR:∀ o∈t.objects,_:=fun o ho=>hP o.rest (ht.rest ho) (hs.2 o ho).1
   have fF:∀ o∈t.objects,∀ x∈o.fields,_:=fun o ho x hx=>hP x (ht.field ho hx) ((hs.2 o ho).2 x hx)
   have ha1:=(formedT_spec ht.1).2.2.2.2.2.1
   refine⟨_,tparts_step t P (201+200*n) (by omega) ha1 (fun a ha=>⟨(fA a ha).1,(fA a ha).2.2⟩) (fun o ho=>⟨(fR o ho).1,(fR o ho).2.2⟩) (fun o ho x hx=>⟨(fF o ho x hx).1,(fF o ho x hx).2.2⟩) (fun o ho=>by have:=ht.names ho; omega),?_,?_⟩
   ·rw[partsT_def]
    have e:1+(partsAs t.arrays+partsOs t.objects)=(1+partsAs t.arrays)+partsOs t.objects:=by omega
    rw[e]
    refine cntOk_objs _ ?_ fun o ho=>⟨fun f hf=>(fF o ho f hf).2.1,(fR o ho).2.1⟩
    match hA:t.arrays with
    | []=>simp[partsAs,cntOk]
    | [.mk x lo hi] =>
      have h1:=(fA (.mk x lo hi) (by simp[hA])).2.1
      simp only[Arr.item] at h1
      simp only[List.foldl_cons,List.foldl_nil,partsAs,Arr.item,cntOk] at h1 ⊢
      obtain⟨f1,f2⟩:=h1
      by_cases g2:P x≤200
      ·have:=f1 g2; omega
      ·have:=f2 (by omega); omega
    | a::b::r=>rw[hA] at ha1; simp at ha1
   ·have:=objP_bd P (201+200*n) t.objects (t.arrays.foldl (fun n a=>n+P a.item) 1) (fun o ho=>⟨fun f hf=>(fF o ho f hf).2.2,(fR o ho).2.2⟩) (by
       match hA:t.arrays with
       | []=>simp; omega
       | [a]=>have:=(fA a (by simp[hA])).2.2; simp; omega
       | a::b::r=>rw[hA] at ha1; simp at ha1)
    omega
theorem c_tidy_parts (t:Ty) (ht:FitT t) (hh:heightT t≤1073741824):∃ p:Nat,Ret prog M.F_tidy_parts [.agg (cT t)] (.int .i64 (p:Nat))∧(200<p↔200<partsT t):=by
 obtain⟨p,h1,⟨h2,h3⟩,h4⟩:=parts_ex (heightT t) hh t ht (Nat.le_refl _)
 refine⟨p,h1,h3,fun h=>?_⟩
 by_cases g:p≤200
 ·have:=h2 g; omega
 ·omega
end Go.Proofs.YtfilonnphgnplaaGreatDoor.Pv
set_option maxRecDepth 100000
namespace Go.Proofs.YtfilonnphgnplaaGreatDoor.Pv
open Go Go.Tidy
set_option maxHeartbeats 4000000 in
theorem tform_step (t:Ty) (ht:heightT t<1073741824) (hN:∀ h:Nat,h≤8→Ret prog M.F_tidy_normal [.agg (cT t),.int .i64 (h:Nat)] (.agg (cT (normalT h t))))
 (hP:∀ h:Nat,h≤8→FitT (normalT h t)∧heightT (normalT h t)≤1073741824) :
 Ret prog M.F_tidy_form [.agg (cT t)] (.agg (cT (formT t))):=by
 have hH:=c_shape_Height t (by omega)
 have hR:=formT_min t
 obtain⟨mo,hmo⟩ : ∃ mo,mo=min (heightT t) 8:=⟨_,rfl⟩
 have hm8:mo≤8:=by omega
 refine Ret.go hmix h_tidy_form (by simp) fun hb w0 F0 hG=>?_
 simp
 intro v1 v2 v3
 refine XDCall.ret (r:=.agg (cT (normalT 0 t))) (by simpa using hN 0 (by omega)) ?_
 simp
 refine XDCall.ret hH ?_
 have hmm:(if (8:Int)<(heightT t:Int) then (8:Int) else (heightT t:Int))=(mo:Nat):=by split<;>omega
 simp[hmm]
 rw[← hmo] at hR
 generalize formT t=R at *
 obtain⟨J,hJ⟩ : ∃ J:Nat→Ty→Prop,J=fun k b=>formFrom t (mo-k) (k+1) b=R:=⟨_,rfl⟩
 refine XLoop.cnt hmix mo (fun (k:Nat) (b:Ty)=>⟨[(5,.int .i64 (k+1:Nat)),(4,.int .i64 mo),(3,.ptr (3,v3) 9 0 0),(2,.ptr (2,v2) 9 0 0),(1,.ptr (1,v1) 9 0 0)],[((3,v3),some ⟨9,[cT b],false,true⟩),((2,v2),some ⟨9,[M.z1],false,true⟩),((1,v1),some ⟨9,[cT t],false,true⟩)]⟩) J (normalT 0 t) (by rw[hJ]; exact hR) (by simp) fun k b hk hj=>?_
 have hj' : formFrom t (mo-k) (k+1) b=R:=by rw[hJ] at hj; exact hj
 have hw:=wrap64 (n:=((k+1:Nat):Int)+1) (by omega) (by omega)
 obtain⟨i,hi⟩ : ∃ i,i=k+1:=⟨_,rfl⟩
 rw[← hi] at hw hj'
 show XC _ _ ⟨[(5,.int .i64 (k+1:Nat)),(4,.int .i64 mo),(3,.ptr (3,v3) 9 0 0),(2,.ptr (2,v2) 9 0 0),(1,.ptr (1,v1) 9 0 0)],[((3,v3),some ⟨9,[cT b],false,true⟩),((2,v2),some ⟨9,[M.z1],false,true⟩),((1,v1),some ⟨9,[cT t],false,true⟩)]⟩ _ _
 rw[← hi]
 by_cases g:k<mo
 ·have g1:i≤mo:=by omega
  obtain⟨m,hm⟩ : ∃ m,mo-k=m+1:=⟨mo-k-1,by omega⟩
  rw[hm,formFrom_step] at hj'
  have c1:=hN i (by omega)
  obtain⟨p,c2,hp⟩:=c_tidy_parts (normalT i t) (hP i (by omega)).1 (hP i (by omega)).2
  generalize normalT i t=z at *
  simp[g1]
  refine XCall.ret c1 ?_
  simp
  intro v6
  refine XCall.ret c2 ?_
  by_cases h200:200<p
  ·have h200' : (200:Int)<p:=by omega
   rw[if_neg (by have:=hp.1 h200; omega)] at hj'
   simp[h200,h200',hj']
  ·have h200' : ¬ (200:Int)<p:=by omega
   rw[if_pos (by rcases Nat.lt_or_ge 200 (partsT z) with h|h; exact absurd (hp.2 h) h200; exact h)] at hj'
   simp[h200,h200',hw]
   exact⟨g,z,by rw[hJ]; show formFrom _ _ _ _=_; rw[show mo-(k+1)=m by omega,show k+1+1=i+1 by omega]; exact hj',by omega,by simp⟩
 ·have g1:¬ i≤mo:=by omega
  rw[show mo-k=0 by omega] at hj'
  have hb' : b=R:=hj'
  simp[g1,hb']
end Go.Proofs.YtfilonnphgnplaaGreatDoor.Pv
set_option maxRecDepth 100000
namespace Go.Proofs.YtfilonnphgnplaaGreatDoor.Pv
open Go Go.Tidy
set_option maxHeartbeats 4000000 in
theorem tTidy_step (t:Ty) (hF:formedT t=true→Ret prog M.F_tidy_form [.agg (cT t)] (.agg (cT (formT t)))) (hT:formedT t=true→Ret prog M.F_shape_Twin [.agg (cT (formT t))] (.agg (cT (formT t)))) :
 Ret prog M.F_tidy_Tidy [.agg (cT t)] (.tup [.agg (cT (if formedT t then formT t else tNever)),.int .i64 (if formedT t then 0 else 1)]):=by
 refine Ret.go hmix h_tidy_Tidy (by simp) fun hb w0 F0 hG=>?_
 have c1:=c_shape_Formed t
 simp
 intros
 refine XCall.ret c1 ?_
 cases e:formedT t
 ·simp[tNever]
 ·have c2:=hF e
  have c3:=hT e
  generalize formT t=z at *
  simp
  refine XCall.ret c2 ?_
  simp
  refine XCall.ret c3 ?_
  simp
set_option maxHeartbeats 4000000 in
theorem tIs_step (t:Ty) (hF:formedT t=true→Ret prog M.F_tidy_form [.agg (cT t)] (.agg (cT (formT t)))) (hz:formedT t=true→formedT (formT t)=true) :
 Ret prog M.F_tidy_Is [.agg (cT t)] (.bool (formedT t&&sameT t (formT t))):=by
 refine Ret.go hmix h_tidy_Is (by simp) fun hb w0 F0 hG=>?_
 have c1:=c_shape_Formed t
 simp
 intros
 refine XDCall.ret c1 ?_
 cases e:formedT t
 ·simp
 ·have c2:=hF e
  have c3:=c_shape_Same t (formT t) e (hz e)
  generalize formT t=z at *
  simp
  refine XDCall.ret c2 ?_
  simp
  refine XDCall.ret c3 ?_
  simp
set_option maxHeartbeats 4000000 in
theorem tSum_step (a b:Ty) (NM:List S) (m:Nat) (hm:2*m≤4294967296) (hba:bdT NM m a) (hbb:bdT NM m b) (hT:formedT a=true→formedT b=true→Ret prog M.F_shape_Twin [.agg (cT (sumT a b))] (.agg (cT (sumT a b)))) :
 Ret prog M.F_tidy_Sum [.agg (cT a),.agg (cT b)] (.tup [.agg (cT (if formedT a&&formedT b then sumT a b else tNever)),.int .i64 (if formedT a&&formedT b then 0 else 1)]):=by
 have c1:=c_shape_Formed a
 have c2:=c_shape_Formed b
 refine Ret.go hmix h_tidy_Sum (by simp) fun hb w0 F0 hG=>?_
 simp
 intros
 refine XCall.ret c1 ?_
 cases e1:formedT a
 ·simp[tNever]
 ·simp
  refine XCall.ret c2 ?_
  cases e2:formedT b
  ·simp[tNever]
  ·have c3:=c_tidy_together sorts_ok compacts_ok NM m [a,b] (by simp[e1,e2]) (by simp[hba,hbb]) (by simp; omega)
   rw[sumL_two e1] at c3
   have c4:=hT e1 e2
   generalize sumT a b=z at *
   simp
   intros
   refine XCall.ret (r:=.agg (cT z)) (by simpa using c3) ?_
   simp
   refine XCall.ret c4 ?_
   simp
end Go.Proofs.YtfilonnphgnplaaGreatDoor.Pv
set_option maxRecDepth 100000
namespace Go.Proofs.YtfilonnphgnplaaGreatDoor.Pv
open Go Go.Tidy
theorem leR_eq' {hl:Key→Option HE} {a b:List (List PV)} (h:a=b):leR hl a b:=h ▸ leR_refl hl a
def oneRow (ns:List S) (a b:PV) (r:Ty):List PV:=[.vec 1 false (ns.map encStr),a,b,.bool r.all,.bool r.null,.bool r.fls,.bool r.tru,.vec 2 false (r.nums.map encSpan),.bool r.any,.vec 1 false (r.texts.map encStr),.vec 11 false (r.arrays.map encArr),.vec 12 false (r.objects.map encObj)]
theorem all_take {α:Type} (f:α→Bool) {l:List α} {k:Nat} (hk:k<l.length):(l.take (k+1)).all f=((l.take k).all f&&f l[k]):=by
 rw[List.take_succ_eq_append_getElem hk,List.all_append]; simp
section
variable {w0:World} {F0:Nat→Prop} {hG:GOk prog w0 F0}
set_option maxHeartbeats 8000000 in
theorem tone_tail (NM:List S) (m:Nat) (l:List Ob) (hf:∀ o∈l,formedO o=true) (hm:∀ o∈l,bdO NM m o) (h4:l.length*m≤4294967296) (hl:l.length≤34359738368) (ns:List S) (hn:ns.length≤34359738368) (r:Ty) (v2 v9:Nat) :
 XC ⟨prog,w0,F0,94,[],0,hG⟩ (.seq (.seq (.reg [M.o 50 (.faddr (.t 9) 0),M.o 51 (.load (.t 50) 1 false),M.o 52 (.len (.t 51)),M.o 53 (.mv (.k (.int .i64 0)))]) (.block 4 (.loop M.b_tidy_one_3))) M.t_tidy_one_1)
  ⟨[(9,.ptr (9,v9) 12 0 0),(2,.ptr (2,v2) 12 0 0),(0,.vec 12 false (l.map encObj))],[((9,v9),some ⟨12,[oneRow ns (.vec 9 true []) (.vec 1 true []) r],false,true⟩),((2,v2),some ⟨12,[M.z4],false,true⟩)]⟩ []
  (retIs M.rs_tidy_one (.agg (cO (.mk ns (ns.map fun n=>sumL (l.map fun o=>(fieldO o n).1)) (ns.map fun n=>l.all fun o=>(fieldO o n).2) r)))):=by
 obtain⟨fF,hfF⟩ : ∃ fF:S→Ty,fF=fun n=>sumL (l.map fun o=>(fieldO o n).1):=⟨_,rfl⟩
 obtain⟨fM,hfM⟩ : ∃ fM:S→Bool,fM=fun n=>l.all fun o=>(fieldO o n).2:=⟨_,rfl⟩
 rw[← hfF,← hfM]
 obtain⟨R,hR⟩ : ∃ R,R=Ob.mk ns (ns.map fF) (ns.map fM) r:=⟨_,rfl⟩
 rw[← hR]
 simp[oneRow]
 obtain⟨J,hJ⟩ : ∃ J:Nat→(List Ty × List Bool)→Prop,J=fun k g=>g.1=(ns.take k).map fF∧g.2=(ns.take k).map fM:=⟨_,rfl⟩
 refine XLoop.cntR hmix [(2000009,9,1001),(3000009,1,1002)] rfl ns.length (fun v k (g:List Ty × List Bool)=>⟨[(53,.int .i64 k),(52,.int .i64 ns.length),(51,.vec 1 false (ns.map encStr)),(9,.ptr (9,v9) 12 0 0),(2,.ptr (2,v2) 12 0 0),(0,.vec 12 false (l.map encObj))],
  [((9,v9),some ⟨12,[oneRow ns (.own (1001,v) 9 0 g.1.length false) (.own (1002,v) 1 0 g.2.length false) r],false,true⟩),((1001,v),some ⟨9,g.1.map encTy,false,false⟩),((1002,v),some ⟨1,g.2.map encBool,false,false⟩),((2,v2),some ⟨12,[M.z4],false,true⟩)]⟩) J ([],[]) (by rw[hJ]; exact⟨rfl,rfl⟩) (fun v=>by simp[oneRow]) fun v k g _ hk hj=>?_
 obtain⟨fs,ms⟩:=g
 have hj' : fs=(ns.take k).map fF∧ms=(ns.take k).map fM:=by rw[hJ] at hj; exact hj
 clear hj
 obtain⟨j1,j2⟩:=hj'
 have hfl:fs.length=k:=by rw[j1]; simp; omega
 have hml:ms.length=k:=by rw[j2]; simp; omega
 have hw:=wrap64 (n:=(k:Int)+1) (by omega) (by omega)
 by_cases g1:k<ns.length
 ·have st1:(ns.take (k+1)).map fF=fs++[fF ns[k]]:=by rw[map_take' fF g1,j1]
  have st2:(ns.take (k+1)).map fM=ms++[fM ns[k]]:=by rw[map_take' fM g1,j2]
  have hJn:J (k+1) (fs++[fF ns[k]],ms++[fM ns[k]]):=by rw[hJ]; exact⟨st1.symm,st2.symm⟩
  have cT':=c_tidy_together sorts_ok compacts_ok NM m (l.map fun o=>(fieldO o ns[k]).1) (fun t ht=>by
   obtain⟨o,ho,rfl⟩:=List.mem_map.1 ht
   obtain⟨o1,o2,o3,o4,o5,o6⟩:=formedO_spec (hf o ho)
   rcases fieldO_in o ns[k] with h|h
   ·exact o5 _ h
   ·rw[h]; exact o4) (fun t ht=>by
   obtain⟨o,ho,rfl⟩:=List.mem_map.1 ht
   exact bd_field (hm o ho) _) (by simpa using h4)
  have hFk:fF ns[k]=sumL (l.map fun o=>(fieldO o ns[k]).1):=by rw[hfF]
  have hMk:fM ns[k]=l.all fun o=>(fieldO o ns[k]).2:=by rw[hfM]
  rw[← hFk] at cT'
  generalize hx:ns[k]=x at *
  generalize fF x=z at *
  simp[g1,oneRow,hx]
  intro v3
  obtain⟨J2,hJ2⟩ : ∃ J2:Nat→(List Ty × Bool)→Prop,J2=fun j p=>p.1=(l.take j).map (fun o=>(fieldO o x).1)∧p.2=(l.take j).all (fun o=>(fieldO o x).2):=⟨_,rfl⟩
  refine XLoop.cntR hmix [(2000009,9,1001),(3000009,1,1002),(12,9,1003)] rfl l.length (fun v j (p:List Ty × Bool)=>⟨[(60,.int .i64 j),(59,.int .i64 l.length),(58,.vec 12 false (l.map encObj)),(12,.own (1003,v) 9 0 p.1.length false),(13,.bool p.2),(11,.str x),(53,.int .i64 k),(52,.int .i64 ns.length),(51,.vec 1 false (ns.map encStr)),(9,.ptr (9,v9) 12 0 0),(2,.ptr (2,v2) 12 0 0),(0,.vec 12 false (l.map encObj))],
   [((9,v9),some ⟨12,[oneRow ns (.own (1001,v) 9 0 fs.length false) (.own (1002,v) 1 0 ms.length false) r],false,true⟩),((1001,v),some ⟨9,fs.map encTy,false,false⟩),((1002,v),some ⟨1,ms.map encBool,false,false⟩),((1003,v),some ⟨9,p.1.map encTy,false,false⟩),((2,v2),some ⟨12,[M.z4],false,true⟩)]⟩) J2 ([],true) (by rw[hJ2]; exact⟨rfl,rfl⟩) (fun v=>by simp[oneRow]) fun u j p _ hj hjp=>?_
  obtain⟨sd,mu⟩:=p
  have hjp' : sd=(l.take j).map (fun o=>(fieldO o x).1)∧mu=(l.take j).all (fun o=>(fieldO o x).2):=by rw[hJ2] at hjp; exact hjp
  clear hjp
  obtain⟨p1,p2⟩:=hjp'
  have hsl:sd.length=j:=by rw[p1]; simp; omega
  have hwj:=wrap64 (n:=(j:Int)+1) (by omega) (by omega)
  by_cases g2:j<l.length
  ·have ho:=hf _ (List.getElem_mem g2)
   obtain⟨o1,o2,o3,o4,o5,o6⟩:=formedO_spec ho
   have cf:=c_tidy_field l[j] x o1 o2 (riseB_SS o3).1
   have s1:(l.take (j+1)).map (fun o=>(fieldO o x).1)=sd++[(fieldO l[j] x).1]:=by rw[map_take' _ g2,p1]
   have s2:(l.take (j+1)).all (fun o=>(fieldO o x).2)=(mu&&(fieldO l[j] x).2):=by rw[all_take _ g2,p2]
   have hJ2n:J2 (j+1) (sd++[(fieldO l[j] x).1],mu&&(fieldO l[j] x).2):=by rw[hJ2]; exact⟨s1.symm,s2.symm⟩
   generalize (fieldO l[j] x).1=y at *
   generalize (fieldO l[j] x).2=b at *
   simp[g2,oneRow,-Bool.exists_bool]
   intro v4
   refine XCall.ret cf ?_
   simp[g2,-Bool.exists_bool]
   intro v5 v6
   refine⟨by omega,sd++[y],mu&&b,hJ2n,fun v=>⟨⟨hwj,by simp,rfl⟩,leR_eq' (by simp)⟩⟩
  ·have e1:sd=l.map (fun o=>(fieldO o x).1):=by rw[p1,List.take_of_length_le (by omega)]
   have e2:mu=fM x:=by rw[p2,List.take_of_length_le (by omega),hMk]
   rw[← e1] at cT'
   simp[g2,oneRow,-Bool.exists_bool]
   intro v5
   refine XDCall.ret (r:=.agg (cT z)) (by simpa using cT') ?_
   simp[oneRow,-Bool.exists_bool]
   exact⟨by omega,fun v=>⟨by omega,g1,fs++[z],ms++[mu],by rw[e2]; exact hJn,fun v1=>⟨hw,⟨by simp,by simp⟩,leR_eq' (by simp),leR_eq' (by simp)⟩⟩⟩
 ·have hR' : R=.mk ns fs ms r:=by rw[hR,j1,j2,List.take_of_length_le (by omega)]
  simp[g1,oneRow,hR']
end
end Go.Proofs.YtfilonnphgnplaaGreatDoor.Pv
set_option maxRecDepth 100000
namespace Go.Proofs.YtfilonnphgnplaaGreatDoor.Pv
open Go Go.Tidy Go.RowKit
section
variable {P:Program} {kt et:TypeId} {w0:World} {F0:Nat→Prop} {nt b b2 n:Nat} {o2:Option Obj} {ks:List ByteArray} {st:St} {a:Act} {w:World}
theorem MRel.step (hmix:P.follows .mixedOrders=true) {c:Code} {m:MC} {Q:Exit→Act→World→Prop} (h:MRel P kt et w0 F0 nt b b2 o2 n ks st a w) (hm:toMC P nt c=some m) (he:m.erase=m) (ex:Ex) (ts:List (Nat × Nat × Nat)) (hts:tagsOk ts=true) (S2:Nat→Nat→St)
 (hx:∀ w1 F1 hG,XC ⟨P,w1,F1,nt,[],0,hG⟩ m st [] fun e st'=>e=ex∧∃ u,∀ v,LS (canonF ts v st') (S2 u v))
 (hK:∀ u v a' w',MRel P kt et w0 F0 nt b b2 o2 n ks (S2 u v) a' w'→Q (Ex.to ex) a' w'):c.wp P Q a w:=by
 refine wp_mono (MRel.run hmix (by rw[he]; exact hm) h hx) ?_
 rintro e a' w' ⟨ex',st',rfl,⟨rfl,u,hl⟩,hr⟩
 obtain⟨v,hr'⟩:=hr.canon ts hts
 exact hK u v a' w' (hr'.ls (hl v))
theorem inBlock_self {id:Nat} {Q:Exit→Act→World→Prop} (h:Q .normal a w):Exit.inBlock id Q (.exit id) a w:=by simp[Exit.inBlock,h]
end
def tS (b b2 off:Nat) (l:List Ob) (v k:Nat) (rs:List Ty):St:=⟨[(22,.int .i64 k),(21,.int .i64 l.length),(20,.vec 12 false (l.map encObj)),(4,.own (1004,v) 9 0 rs.length false),(3,.raw (.map (some b))),(2,.raw (.pointer (some ⟨b2,off,none⟩))),(0,.vec 12 false (l.map encObj))],
 [((1004,v),some ⟨9,rs.map encTy,false,false⟩)]⟩
def tI (b b2 off:Nat) (l:List Ob) (v k:Nat) (rs:List Ty) (u:Nat) (o:Ob) (x:List (Nat × PV)):St:=⟨x++[(6,.ptr (6,u) 12 0 0),(5,.int .i64 k),(22,.int .i64 k),(21,.int .i64 l.length),(20,.vec 12 false (l.map encObj)),(4,.own (1004,v) 9 0 rs.length false),(3,.raw (.map (some b))),(2,.raw (.pointer (some ⟨b2,off,none⟩))),(0,.vec 12 false (l.map encObj))],
 [((6,u),some ⟨12,[cO o],false,true⟩),((1004,v),some ⟨9,rs.map encTy,false,false⟩)]⟩
def tJ (o:Ob) (j:Nat):List (Nat × PV):=[(30,.int .i64 j),(29,.int .i64 o.names.length),(28,.vec 1 false (o.names.map encStr))]
section
variable {w0:World} {F0:Nat→Prop} {kt et b b2 off:Nat} {o2:Option Obj} {l:List Ob}
theorem tone_inner (hT:MapT prog 164 kt et) {Q:Exit→Act→World→Prop} {k:Nat} {rs:List Ty} {u v n0 N0:Nat} {o:Ob} {ks0:List S} {a:Act} {w:World} (hol:o.names.length≤34359738368) (hk:k≤34359738368) {c:Code} (hc:toMC prog 94 c=some (.block 2 (.loop M.b_tidy_one_0))) (hN:N0+o.names.length<maxLen) (hn0:n0≤N0)
 (h:MRel prog kt et w0 F0 94 b b2 o2 n0 ks0 (tI b b2 off l v k rs u o (tJ o 0)) a w)
 (hQ:∀ v u n ks a w,n≤N0+o.names.length→(∀ s,s∈ks↔s∈ks0∨s∈o.names)→MRel prog kt et w0 F0 94 b b2 o2 n ks (tI b b2 off l v k rs u o []) a w→Q .normal a w):c.wp prog Q a w:=by
 obtain⟨cl,rfl,hl⟩:=toMC_block hc
 obtain⟨cb,rfl,hb⟩:=toMC_loop hl
 refine wp_block ?_
 refine wp_loop_ghost (fun m a w=>∃ v j n ks,j≤o.names.length∧o.names.length-j=m∧n≤N0+j∧(∀ s,s∈ks↔s∈ks0∨s∈o.names.take j)∧MRel prog kt et w0 F0 94 b b2 o2 n ks (tI b b2 off l v k rs u o (tJ o j)) a w) o.names.length ⟨v,0,n0,ks0,by omega,by simp,by omega,by simp,h⟩ ?_
 rintro m a w ⟨v,j,n,ks,hj,rfl,hn,hks,h⟩
 obtain⟨c1,c2,rfl,h1,h2⟩:=toMC_seq hb
 obtain⟨c3,c4,rfl,h3,h4⟩:=toMC_seq h2
 obtain⟨c5,c6,rfl,h5,h6⟩:=toMC_seq h4
 obtain⟨c7,rfl,h7⟩:=toMC_block h5
 obtain⟨c8,c9,rfl,h8,h9⟩:=toMC_seq h7
 obtain⟨id,ops,rfl,hops⟩:=toMC_reg h9
 have hw:=wrap64 (n:=(j:Int)+1) (by omega) (by omega)
 by_cases g:j<o.names.length
 ·refine wp_seq (h.step hmix h1 rfl .normal [(4,9,1004)] rfl (fun _ v=>tI b b2 off l v k rs u o ((31,.bool true)::tJ o j)) (fun w1 F1 hG=>by simp[tI,tJ,g]) fun _ v a w h=>?_)
  refine wp_seq (h.step hmix h3 rfl .normal [(4,9,1004)] rfl (fun _ v=>tI b b2 off l v k rs u o (tJ o j)) (fun w1 F1 hG=>by simp[tI,tJ,g]) fun _ v a w h=>?_)
  refine wp_seq (wp_block ?_)
  refine wp_seq (h.step hmix h8 rfl .normal [(4,9,1004)] rfl (fun _ v=>tI b b2 off l v k rs u o ((8,.str o.names[j])::tJ o j)) (fun w1 F1 hG=>by simp[tI,tJ,g]) fun _ v a w h=>?_)
  refine wp_region_list ?_
  obtain⟨l1,l2,e1,k1,k2⟩:=toOps_split (ms1:=[M.o 34 (.mv (.t 3)),M.o 35 (.mv (.t 8)),M.o 36 (.mv (.t 5))]) hops
  obtain⟨o1,l3,rfl,k3,k4⟩:=toOps_cons k2
  obtain rfl:=toOps_nil k4
  rw[e1]
  obtain⟨w1,F1,hG,r1,r2,r3⟩:=h
  refine run_sound_app (E:=⟨prog,w1,F1,94,[],0,hG⟩) (K:=fun st'=>LS st' (tI b b2 off l v k rs u o ((36,.int .i64 k)::(35,.str o.names[j])::(34,.raw (.map (some b)))::tJ o j))) ?_ l1 _ _ a w k1 r3 (by
   show XR _ [M.o 34 (.mv (.t 3)),M.o 35 (.mv (.t 8)),M.o 36 (.mv (.t 5))] _ [] (fun _ st'=>LS st' _)
   simp[tI,tJ,leR_refl])
  intro st' a w hl hr
  have h:MRel prog kt et w0 F0 94 b b2 o2 n ks (tI b b2 off l v k rs u o ((36,.int .i64 k)::(35,.str o.names[j])::(34,.raw (.map (some b)))::tJ o j)) a w:=⟨w1,F1,hG,r1,r2,hl.le a w hr⟩
  refine h.set hT k3 (s:=o.names[j]) (i:=k) rfl rfl rfl (by omega) fun w' h=>?_
  show Exit.inBlock 3 _ .normal a w'
  refine h.step hmix h6 rfl .normal [(4,9,1004)] rfl (fun _ v=>tI b b2 off l v k rs u o (tJ o (j+1))) (fun w1 F1 hG=>by simp[tI,tJ,g,hw]) fun _ v a w h=>?_
  refine⟨o.names.length-(j+1),by omega,v,j+1,n+1,_,by omega,rfl,by omega,fun s=>?_,h⟩
  rw[List.take_succ_eq_append_getElem g]
  simp only[List.mem_cons,hks,List.mem_append,List.not_mem_nil,or_false]
  constructor
  ·rintro (h|h|h)<;>simp[h]
  ·rintro (h|h|h)<;>simp[h]
 ·refine wp_seq (h.step hmix h1 rfl .normal [(4,9,1004)] rfl (fun _ v=>tI b b2 off l v k rs u o ((31,.bool false)::tJ o j)) (fun w1 F1 hG=>by simp[tI,tJ,g]) fun _ v a w h=>?_)
  refine wp_seq (h.step hmix h3 rfl (.exit 2) [(4,9,1004)] rfl (fun _ v=>tI b b2 off l v k rs u o []) (fun w1 F1 hG=>by simp[tI,tJ,g]) fun _ v a w h=>?_)
  show Exit.inBlock 2 Q (.exit 2) a w
  refine inBlock_self (hQ v u n ks a w (by omega) (fun s=>?_) h)
  rw[hks,List.take_of_length_le (by omega)]
theorem tone_outer (hT:MapT prog 164 kt et) (m:Nat) (hm:∀ o∈l,o.names.length≤m) (hm' : m≤34359738368) (hl:l.length≤34359738368) {Q:Exit→Act→World→Prop} {v:Nat} {a:Act} {w:World} {c:Code} (hc:toMC prog 94 c=some (.block 0 (.loop M.b_tidy_one_1))) (hN:l.length*m+m<maxLen)
 (h:MRel prog kt et w0 F0 94 b b2 o2 0 [] (tS b b2 off l v 0 []) a w)
 (hQ:∀ n ks a w,(∀ s,s∈ks↔∃ o∈l,s∈o.names)→MRel prog kt et w0 F0 94 b b2 o2 n ks ⟨[(4,.vec 9 false ((l.map Ob.rest).map encTy)),(3,.raw (.map (some b))),(2,.raw (.pointer (some ⟨b2,off,none⟩))),(0,.vec 12 false (l.map encObj))],[]⟩ a w→Q .normal a w):c.wp prog Q a w:=by
 obtain⟨cl,rfl,hlp⟩:=toMC_block hc
 obtain⟨cb,rfl,hb⟩:=toMC_loop hlp
 refine wp_block ?_
 refine wp_loop_ghost (fun x a w=>∃ v k n ks rs,k≤l.length∧l.length-k=x∧n≤k*m∧rs=(l.take k).map Ob.rest∧(∀ s,s∈ks↔∃ o∈l.take k,s∈o.names)∧MRel prog kt et w0 F0 94 b b2 o2 n ks (tS b b2 off l v k rs) a w) l.length ⟨v,0,0,[],[],by omega,by simp,by omega,by simp,by simp,h⟩ ?_
 rintro x a w ⟨v,k,n,ks,rs,hk,rfl,hn,hrs,hks,h⟩
 have hrl:rs.length=k:=by rw[hrs]; simp; omega
 obtain⟨c1,c2,rfl,h1,h2⟩:=toMC_seq hb
 obtain⟨c3,c4,rfl,h3,h4⟩:=toMC_seq h2
 obtain⟨c5,c6,rfl,h5,h6⟩:=toMC_seq h4
 obtain⟨c7,rfl,h7⟩:=toMC_block h5
 obtain⟨c8,c9,rfl,h8,h9⟩:=toMC_seq h7
 obtain⟨c10,c11,rfl,h10,h11⟩:=toMC_seq h9
 obtain⟨c12,c13,rfl,h12,h13⟩:=toMC_seq h10
 have hw:=wrap64 (n:=(k:Int)+1) (by omega) (by omega)
 by_cases g:k<l.length
 ·have hkm:(k+1)*m≤l.length*m:=Nat.mul_le_mul_right m g
  have hkm' : (k+1)*m=k*m+m:=Nat.succ_mul k m
  have hom:=hm _ (List.getElem_mem g)
  have hrl2:rs.length≤68719476735:=by omega
  have st1:(l.take (k+1)).map Ob.rest=rs++[l[k].rest]:=by rw[map_take' _ g,hrs]
  refine wp_seq (h.step hmix h1 rfl .normal [(4,9,1004)] rfl (fun _ v=>⟨(23,.bool true)::(tS b b2 off l v k rs).s,(tS b b2 off l v k rs).h⟩) (fun w1 F1 hG=>by simp[tS,g]) fun _ v a w h=>?_)
  refine wp_seq (h.step hmix h3 rfl .normal [(4,9,1004)] rfl (fun _ v=>tS b b2 off l v k rs) (fun w1 F1 hG=>by simp[tS,g]) fun _ v a w h=>?_)
  refine wp_seq (wp_block ?_)
  refine wp_seq (h.step hmix h8 rfl .normal [(4,9,1004)] rfl (fun u v=>tI b b2 off l v k rs u l[k] []) (fun w1 F1 hG=>by
   simp[tS,tI,g]
   intro u
   exact⟨u,fun v=>by simp⟩) fun u v a w h=>?_)
  generalize ho:l[k]=o at *
  refine wp_seq (wp_seq (h.step hmix h12 rfl .normal [(4,9,1004)] rfl (fun _ v=>tI b b2 off l v k rs u o (tJ o 0)) (fun w1 F1 hG=>by simp[tI,tJ]) fun _ v a w h=>?_))
  refine tone_inner hT (by omega) (by omega) h13 (N0:=k*m) (by omega) hn h fun v u n' ks' a w hn' hks' h=>?_
  refine h.step hmix h11 rfl .normal [(4,9,1004)] rfl (fun _ v=>tS b b2 off l v k (rs++[o.rest])) (fun w1 F1 hG=>by simp[tS,tI,hrl2]) fun _ v a w h=>?_
  refine h.step hmix h6 rfl .normal [(4,9,1004)] rfl (fun _ v=>tS b b2 off l v (k+1) (rs++[o.rest])) (fun w1 F1 hG=>by simp[tS,hw]) fun _ v a w h=>?_
  refine⟨l.length-(k+1),by omega,v,k+1,n',ks',_,by omega,rfl,by omega,st1.symm,fun s=>?_,h⟩
  rw[hks',hks,List.take_succ_eq_append_getElem g,ho]
  simp only[List.mem_append,List.mem_singleton]
  constructor
  ·rintro (⟨o',h1,h2⟩|h)
   ·exact⟨o',.inl h1,h2⟩
   ·exact⟨o,.inr rfl,h⟩
  ·rintro⟨o',h1|rfl,h2⟩
   ·exact .inl ⟨o',h1,h2⟩
   ·exact .inr h2
 ·refine wp_seq (h.step hmix h1 rfl .normal [(4,9,1004)] rfl (fun _ v=>⟨(23,.bool false)::(tS b b2 off l v k rs).s,(tS b b2 off l v k rs).h⟩) (fun w1 F1 hG=>by simp[tS,g]) fun _ v a w h=>?_)
  have hrs' : rs=l.map Ob.rest:=by rw[hrs,List.take_of_length_le (by omega)]
  refine wp_seq (h.step hmix h3 rfl (.exit 0) [] rfl (fun _ v=>⟨[(4,.vec 9 false (rs.map encTy)),(3,.raw (.map (some b))),(2,.raw (.pointer (some ⟨b2,off,none⟩))),(0,.vec 12 false (l.map encObj))],[]⟩) (fun w1 F1 hG=>by simp[tS,g]) fun _ v a w h=>?_)
  show Exit.inBlock 0 Q (.exit 0) a w
  refine inBlock_self (hQ n ks a w (fun s=>?_) (hrs' ▸ h))
  rw[hks,List.take_of_length_le (by omega)]
end
theorem len_names {NM:List S} {m:Nat} {o:Ob} (hf:formedO o=true) (hm:bdO NM m o):o.names.length≤NM.length:=SS_len (formedO_SS hf) hm.1
set_option maxHeartbeats 4000000 in
theorem c_tidy_one {kt et:TypeId} (hS:SortedKeys prog 164 kt et M.F_maps_Keys_int M.F_slices_Sorted_string) (NM:List S) (m:Nat) (l:List Ob) (hf:∀ o∈l,formedO o=true) (hm:∀ o∈l,bdO NM m o) (h4:l.length*m≤4294967296) (hl:l.length≤34359738368) (hNM:NM.length≤134217728) :
 Ret prog M.F_tidy_one [.vec 12 false (l.map encObj)] (.agg (cO (oneO l))):=by
 refine Ret.of_wp h_tidy_one (by simp) fun c htm w0 F0 hG a hg=>?_
 have hF0:∀ x,F0 x→x<w0.heap.size:=fun x hx=>(hg.fz x hx).1
 replace htm:toMC prog 94 c=some M.m_tidy_one:=htm
 obtain⟨c1,c2,rfl,h1,h2⟩:=toMC_seq htm
 obtain⟨c3,c4,rfl,h3,h4'⟩:=toMC_seq h2
 obtain⟨c5,c6,rfl,h5,h6⟩:=toMC_seq h4'
 obtain⟨c7,c8,rfl,h7,h8⟩:=toMC_seq h6
 obtain⟨c9,c10,rfl,h9,h10⟩:=toMC_seq h7
 obtain⟨c11,c12,rfl,h11,h12⟩:=toMC_seq h8
 have hnl:∀ o∈l,o.names.length≤NM.length:=fun o ho=>len_names (hf o ho) (hm o ho)
 have hmul:l.length*NM.length≤34359738368*134217728:=Nat.mul_le_mul hl hNM
 have hmax:l.length*NM.length+NM.length<maxLen:=by unfold maxLen; omega
 have cT':=c_tidy_together sorts_ok compacts_ok NM m (l.map Ob.rest) (fun t ht=>by
  obtain⟨o,ho,rfl⟩:=List.mem_map.1 ht
  exact (formedO_spec (hf o ho)).2.2.2.1) (fun t ht=>by
  obtain⟨o,ho,rfl⟩:=List.mem_map.1 ht
  exact (hm o ho).2.2) (by simpa using h4)
 refine wp_seq (wp_mono (exec_sound (E:=⟨prog,w0,F0,94,[],0,hG⟩) hmix c1 (.reg [M.o 2 (.alloc M.z4)]) _ a w0 (fun e st'=>e=.normal∧∃ v2,st'=⟨[(2,.ptr (2,v2) 12 0 0),(0,.vec 12 false (l.map encObj))],[((2,v2),some ⟨12,[M.z4],false,true⟩)]⟩) h1 ⟨_,hg⟩ ?_) ?_)
 ·show XC _ _ _ [] _
  simp
 rintro e a w ⟨ex,st',rfl,⟨rfl,v2,rfl⟩,hr⟩
 obtain⟨id,ops,rfl,hops⟩:=toMC_reg h3
 refine wp_seq (wp_region_list (mrel_start (kt:=kt) (et:=et) (z:=M.z4) (x0:=.vec 12 false (l.map encObj)) hF0 (by decide) (by decide) (by decide) (by decide) rfl hops hr fun b b2 off o2 a w hB h=>?_))
 refine wp_seq (h.step hmix h5 rfl .normal [(4,9,1004)] rfl (fun _ v=>⟨[(4,.own (1004,v) 9 0 0 false),(3,.raw (.map (some b))),(2,.raw (.pointer (some ⟨b2,off,none⟩))),(0,.vec 12 false (l.map encObj))],[((1004,v),some ⟨9,[],false,false⟩)]⟩) (fun w1 F1 hG=>by simp) fun _ v a w h=>?_)
 refine wp_seq (wp_seq (h.step hmix h9 rfl .normal [(4,9,1004)] rfl (fun _ v=>tS b b2 off l v 0 []) (fun w1 F1 hG=>by simp[tS]) fun _ v a w h=>?_))
 refine tone_outer hS.2.2.1 NM.length hnl (by omega) hl h10 hmax h fun n ks a w hks h=>?_
 obtain⟨id2,ops2,rfl,hops2⟩:=toMC_reg h11
 refine wp_seq (wp_region_list (mrel_fin (hG0:=hG) hS (z:=M.z4) (NK:=NM.map fun s=>s.data.toList) (by decide) rfl rfl hB (fun s hs=>?_) (by simp; omega) hops2 h fun ns N l' a w hl' hss hmem hr=>?_))
 ·obtain⟨o,ho,h⟩:=(hks s).1 hs
  exact List.mem_map.2 ⟨s,(hm o ho).1 s h,rfl⟩
 have hns:ns=namesL l:=by
  refine SS_ext sCmp_swap (hss.imp fun {x y} h=>?_) (SS_namesL fun o ho=>formedO_SS (hf o ho)) fun s=>by rw[hmem,hks,mem_namesL hf]
  rw[sCmp_lt]
  show Op.bytesLess _ _=true
  rw[bytesLess_lt]
  simpa using h
 have hnsl:ns.length≤NM.length:=by
  rw[hns]
  refine SS_len (SS_namesL fun o ho=>formedO_SS (hf o ho)) fun n hn=>?_
  obtain⟨o,ho,hn⟩:=namesL_sub l n hn
  exact (hm o ho).1 n hn
 have hO:oneO l=.mk ns (ns.map fun n=>sumL (l.map fun o=>(fieldO o n).1)) (ns.map fun n=>l.all fun o=>(fieldO o n).2) (sumL (l.map Ob.rest)):=by rw[hns]; rfl
 rw[hO]
 have htail:=fun v9=>tone_tail (w0:=w0) (F0:=F0) (hG:=hG) NM m l hf hm h4 hl ns (by omega) (sumL (l.map Ob.rest)) N v9
 clear hO
 generalize sumL (l.map Ob.rest)=r at *
 rw[← List.append_nil l']
 obtain⟨K,hK⟩ : ∃ K:St→Prop,K=fun st'=>∃ v9,LS st' ⟨[(9,.ptr (9,v9) 12 0 0),(2,.ptr (2,N) 12 0 0),(0,.vec 12 false (l.map encObj))],[((9,v9),some ⟨12,[oneRow ns (.vec 9 true []) (.vec 1 true []) r],false,true⟩),((2,N),some ⟨12,[M.z4],false,true⟩)]⟩:=⟨_,rfl⟩
 refine run_sound_app (E:=⟨prog,w0,F0,94,[],0,hG⟩) (K:=K) ?_ l' _ _ a w hl' hr ?_
 ·intro st' a w hk hr
  rw[hK] at hk
  obtain⟨v9,hls⟩:=hk
  exact wp_mono (exec_sound (E:=⟨prog,w0,F0,94,[],0,hG⟩) hmix c12 (.seq (.seq (.reg [M.o 50 (.faddr (.t 9) 0),M.o 51 (.load (.t 50) 1 false),M.o 52 (.len (.t 51)),M.o 53 (.mv (.k (.int .i64 0)))]) (.block 4 (.loop M.b_tidy_one_3))) M.t_tidy_one_1) _ a w _ h12 (hls.le a w hr) (htail v9)) fun e a' w' h=>h
 ·show XR _ [M.o 47 (.mv (.t 4)),M.o 48 (.call M.F_tidy_together [.t 47]),M.o 49 (.build M.z4 [(0,1,.t 46),(3,9,.t 48)]),M.o 9 (.alloc M.z4),M.e (.store (.t 9) (.t 49) 12)] _ [] (fun _=>K)
  have eN:M.z4.length=12:=rfl
  rw[eN]
  simp
  refine XCall.ret (by simpa using cT') ?_
  simp[hK,oneRow]
  exact fun _ _=>rfl
end Go.Proofs.YtfilonnphgnplaaGreatDoor.Pv
set_option maxRecDepth 100000
namespace Go.Proofs.YtfilonnphgnplaaGreatDoor.Pv
open Go Go.Tidy
theorem kf_objs (l:List Ob):kfR (l.map encObj)=true:=by
 induction l with
 | nil=>rfl
 | cons o l ih=>simp[kfR,ih]
theorem set_arrs {l:List Arr} {k:Nat} (hk:k<l.length):(l.map encArr).set k (cA l[k])=l.map encArr:=by
 rw[← encArr_eq,← List.map_set,List.set_getElem_self]
theorem set_objs {l:List Ob} {k:Nat} (hk:k<l.length):(l.map encObj).set k (cO l[k])=l.map encObj:=by
 rw[← encObj_eq,← List.map_set,List.set_getElem_self]
theorem set_tys {l:List Ty} {k:Nat} (hk:k<l.length):(l.map encTy).set k (cT l[k])=l.map encTy:=by
 rw[← encTy_eq,← List.map_set,List.set_getElem_self]
theorem leR_set {hl:Key→Option HE}:∀ {l:List (List PV)} {k:Nat} {row:List PV} (hk:k<l.length),leL hl row l[k]→leR hl (l.set k row) l
 | [],k,_,hk,_=>by simp at hk
 | x::l,0,row,_,h=>by
   rw[List.set_cons_zero]
   exact⟨h,leR_refl hl l⟩
 | x::l,k+1,row,hk,h=>by
   rw[List.set_cons_succ]
   exact⟨leL_refl hl x,leR_set (by simpa using hk) h⟩
def twO (o:Ob) (a b c:PV):List PV:=[a,b,c,.bool o.rest.all,.bool o.rest.null,.bool o.rest.fls,.bool o.rest.tru,.vec 2 false (o.rest.nums.map encSpan),.bool o.rest.any,.vec 1 false (o.rest.texts.map encStr),.vec 11 false (o.rest.arrays.map encArr),.vec 12 false (o.rest.objects.map encObj)]
def twRow (t:Ty) (a o:PV):List PV:=[.bool t.all,.bool t.null,.bool t.fls,.bool t.tru,.vec 2 false (t.nums.map encSpan),.bool t.any,.vec 1 false (t.texts.map encStr),a,o]
set_option maxHeartbeats 8000000 in
theorem twin_step (t:Ty) (h1:t.nums.length≤34359738368) (h2:t.texts.length≤34359738368) (h3:t.arrays.length≤34359738368) (h4:t.objects.length≤34359738368)
 (hA:∀ a∈t.arrays,Ret prog M.F_shape_Twin [.agg (cT a.item)] (.agg (cT a.item)))
 (hO:∀ o∈t.objects,o.names.length≤34359738368∧o.fields.length≤34359738368∧o.must.length≤34359738368∧(∀ f∈o.fields,Ret prog M.F_shape_Twin [.agg (cT f)] (.agg (cT f)))∧Ret prog M.F_shape_Twin [.agg (cT o.rest)] (.agg (cT o.rest))) :
 Ret prog M.F_shape_Twin [.agg (cT t)] (.agg (cT t)):=by
 refine Ret.go hmix h_shape_Twin (by simp) fun hb w0 F0 hG=>?_
 have c1:=c_slices_Clone_Span false (t.nums.map encSpan) (by simp; omega)
 have c2:=c_slices_Clone_string false (t.texts.map encStr) (by simp; omega)
 have c3:=c_slices_Clone_Arr false (t.arrays.map encArr) (by simp; omega)
 have c4:=c_slices_Clone_Obj false (t.objects.map encObj) (by simp; omega)
 simp
 intro v1 v2 v3
 refine XDCall.retO c1 ?_
 simp
 refine XDCall.retO c2 ?_
 simp
 intro v4
 refine XDCall.retO c3 ?_
 simp
 refine XDCall.retO c4 ?_
 simp
 refine XLoop.anew [(8000001,11,1007),(9000001,12,1008)] rfl (fun v=>⟨[(26,.int .i64 0),(25,.int .i64 t.arrays.length),(2,.ptr (2,v2) 9 0 0),(1,.ptr (1,v1) 9 0 0)],[((1,v1),some ⟨9,[twRow t (.own (1007,v) 11 0 t.arrays.length false) (.own (1008,v) 12 0 t.objects.length false)],false,true⟩),((1007,v),some ⟨11,t.arrays.map encArr,false,false⟩),((1008,v),some ⟨12,t.objects.map encObj,false,false⟩),((2,v2),some ⟨9,[M.z1],false,true⟩)]⟩) (fun v=>by simp[twRow,leR_refl]) fun v hv=>?_
 refine XLoop.cnt hmix t.arrays.length (fun k (_:Unit)=>⟨[(26,.int .i64 k),(25,.int .i64 t.arrays.length),(2,.ptr (2,v2) 9 0 0),(1,.ptr (1,v1) 9 0 0)],[((1,v1),some ⟨9,[twRow t (.own (1007,v) 11 0 t.arrays.length false) (.own (1008,v) 12 0 t.objects.length false)],false,true⟩),((1007,v),some ⟨11,t.arrays.map encArr,false,false⟩),((1008,v),some ⟨12,t.objects.map encObj,false,false⟩),((2,v2),some ⟨9,[M.z1],false,true⟩)]⟩) (fun _ _=>True) () trivial (by simp[twRow,leR_refl]) fun k _ hk _=>?_
 have hw:=wrap64 (n:=(k:Int)+1) (by omega) (by omega)
 by_cases g1:k<t.arrays.length
 ·have cA:=hA _ (List.getElem_mem g1)
  have hs:=set_arrs g1
  simp[g1,twRow]
  intro v5
  refine XDCall.ret (by simpa using cA) ?_
  simp[g1,hw,hs,leR_refl]
 ·simp[g1,twRow]
  refine XLoop.anew [(9000001,12,1009)] rfl (fun v=>⟨[(45,.int .i64 0),(44,.int .i64 t.objects.length),(2,.ptr (2,v2) 9 0 0),(1,.ptr (1,v1) 9 0 0)],[((1,v1),some ⟨9,[twRow t (.vec 11 false (t.arrays.map encArr)) (.own (1009,v) 12 0 t.objects.length false)],false,true⟩),((1009,v),some ⟨12,t.objects.map encObj,false,true⟩),((2,v2),some ⟨9,[M.z1],false,true⟩)]⟩) (fun v=>by simp[twRow,leR_refl]) fun u hu=>?_
  refine XLoop.cntX hmix t.objects.length (fun k=>⟨[(45,.int .i64 k),(44,.int .i64 t.objects.length),(2,.ptr (2,v2) 9 0 0),(1,.ptr (1,v1) 9 0 0)],[((1,v1),some ⟨9,[twRow t (.vec 11 false (t.arrays.map encArr)) (.own (1009,u) 12 0 t.objects.length false)],false,true⟩),((1009,u),some ⟨12,t.objects.map encObj,false,true⟩),((2,v2),some ⟨9,[M.z1],false,true⟩)]⟩) 2
   ⟨[(2,.ptr (2,v2) 9 0 0),(1,.ptr (1,v1) 9 0 0)],[((1,v1),some ⟨9,[twRow t (.vec 11 false (t.arrays.map encArr)) (.own (1009,u) 12 0 t.objects.length false)],false,true⟩),((1009,u),some ⟨12,t.objects.map encObj,false,false⟩),((2,v2),some ⟨9,[M.z1],false,true⟩)]⟩ (fun v=>by simp[twRow,leR_refl]) ?_ ?_
  ·intro k hk
   have hw:=wrap64 (n:=(k:Int)+1) (by omega) (by omega)
   by_cases g2:k<t.objects.length
   ·obtain⟨o1,o2,o3,o4,o5⟩:=hO _ (List.getElem_mem g2)
    have hs:=set_objs g2
    have d1:=c_slices_Clone_string false (t.objects[k].names.map encStr) (by simp; omega)
    have d2:=c_slices_Clone_bool false (t.objects[k].must.map encBool) (by simp; omega)
    have d3:=c_slices_Clone_Type false (t.objects[k].fields.map encTy) (by simp; omega)
    generalize ho:t.objects[k]=o at *
    simp[g2,twRow,ho]
    intro v5
    refine XDCall.retO d1 ?_
    simp[g2,ho]
    refine XDCall.retO d2 ?_
    simp[g2,ho]
    refine XDCall.retO d3 ?_
    simp[g2,ho]
    have hnl:(t.objects.map encObj).length=t.objects.length:=by simp
    refine XLoop.cnt hmix o.fields.length (fun j (_:Unit)=>⟨[(81,.int .i64 j),(80,.int .i64 o.fields.length),(5,.ptr (1009,u) 12 k 0),(45,.int .i64 k),(44,.int .i64 t.objects.length),(2,.ptr (2,v2) 9 0 0),(1,.ptr (1,v1) 9 0 0)],
     [((1009,u),some ⟨12,(t.objects.map encObj).set k (twO o (.own (59,v5) 1 0 o.names.length false) (.own (69,v5) 9 0 o.fields.length false) (.own (64,v5) 1 0 o.must.length false)),false,true⟩),((69,v5),some ⟨9,o.fields.map encTy,false,false⟩),((64,v5),some ⟨1,o.must.map encBool,false,false⟩),((59,v5),some ⟨1,o.names.map encStr,false,false⟩),((1,v1),some ⟨9,[twRow t (.vec 11 false (t.arrays.map encArr)) (.own (1009,u) 12 0 t.objects.length false)],false,true⟩),((2,v2),some ⟨9,[M.z1],false,true⟩)]⟩) (fun _ _=>True) () trivial (by simp[twRow,twO,leR_refl]) fun j _ hj _=>?_
    have hwj:=wrap64 (n:=(j:Int)+1) (by omega) (by omega)
    by_cases g3:j<o.fields.length
    ·have cF:=o4 _ (List.getElem_mem g3)
     have hsf:=set_tys g3
     simp[g2,g3,twRow,twO]
     intro v6
     refine XDCall.ret (by simpa using cF) ?_
     simp[g2,g3,hwj,hsf,leR_refl]
    ·simp[g2,g3,twRow,twO]
     refine XCall.ret (by simpa using o5) ?_
     simp[g2,hw]
     refine leR_set (by simpa using g2) ?_
     have e:(t.objects.map encObj)[k]'(by simpa using g2)=cO o:=by simp[ho]
     rw[e]
     simp
   ·simp[g2,twRow,leR_refl,kf_objs]
  ·simp[twRow]
theorem c_shape_Twin (NM:List S) (m:Nat) (h1:NM.length≤8589934592) (h2:m≤8589934592):∀ t:Ty,formedT t=true→bdT NM m t→Ret prog M.F_shape_Twin [.agg (cT t)] (.agg (cT t)):=by
 have key:∀ (n:Nat) (t:Ty),heightT t≤n→formedT t=true→bdT NM m t→Ret prog M.F_shape_Twin [.agg (cT t)] (.agg (cT t)):=by
  intro n
  induction n with
  | zero =>
    intro t hh ht hb
    have h0:=height_le_zero.1 hh
    obtain⟨b1,b2,_,_⟩:=bdT_iff.1 hb
    have f4:=(formedT_spec ht).2.2.2.1
    exact twin_step t (by omega) (by omega) (by simp[h0.1]) (by simp[h0.2]) (by simp[h0.1]) (by simp[h0.2])
  | succ n ih =>
    intro t hh ht hb
    have hs:=height_le_succ.1 hh
    obtain⟨b1,b2,b3,b4⟩:=bdT_iff.1 hb
    obtain⟨f1,f2,f3,f4,f5,f6,f7,f8⟩:=formedT_spec ht
    refine twin_step t (by omega) (by omega) (by omega) (by omega) (fun a ha=>?_) (fun o ho=>?_)
    ·exact ih a.item (hs.1 a ha) (formedA_spec (f7 a ha)).2.2.2.1 (b3 a ha)
    ·obtain⟨o1,o2,o3,o4,o5,o6⟩:=formedO_spec (f8 o ho)
     have hb':=b4 o ho
     have hnl:o.names.length≤NM.length:=SS_len (formedO_SS (f8 o ho)) hb'.1
     exact⟨by omega,by omega,by omega,fun f hf=>ih f ((hs.2 o ho).2 f hf) (o5 f hf) (hb'.2.1 f hf),ih o.rest (hs.2 o ho).1 o4 hb'.2.2⟩
 exact fun t=>key (heightT t) t (Nat.le_refl _)
end Go.Proofs.YtfilonnphgnplaaGreatDoor.Pv
set_option maxRecDepth 100000
namespace Go.Proofs.YtfilonnphgnplaaGreatDoor.Pv
open Go Go.Tidy
abbrev rowH (gs gv:Nat) (l:List Ob):List (Key × Option HE):=[((gs,gv),some ⟨12,l.map encObj,false,false⟩)]
theorem rows_swap {l:List Ob} {a b:Nat} (ha:a<l.length) (hb:b<l.length):((l.map encObj).set a (cO l[b])).set b (cO l[a])=(swapN l a b).map encObj:=by
 rw[← encObj_eq,← encObj_eq,← List.map_set,← List.map_set]
 unfold swapN
 rw[List.getElem?_eq_getElem ha,List.getElem?_eq_getElem hb]
set_option maxHeartbeats 4000000 in
theorem c_swapRange (gs gv:Nat) (fl:Bool) (l:List Ob) (a b n:Nat) (fid:Nat) (ha:a+n≤l.length) (hb' : b+n≤l.length) (hl:l.length≤34359738368) :
 RetK prog M.F_slices_swapRangeCmpFunc_Obj [.own (gs,gv) 12 0 l.length fl,.int .i64 a,.int .i64 b,.int .i64 n,.fn fid [] []] (rowH gs gv l) (fun r h=>r=.tup []∧h=rowH gs gv (swapsN l a b n)):=by
 refine RetK.of hmix h_slices_swapRangeCmpFunc_Obj (by simp) fun E hP hV=>?_
 have hgV:=hV (gs,gv) ⟨12,l.map encObj,false,false⟩ (by simp[hk])
 obtain⟨P,w0,F0,nt,G,V,glob⟩:=E
 obtain rfl:P=prog:=hP
 simp
 refine XLoop.cnt hmix n (fun k (_:Unit)=>⟨[(10,.int .i64 k),(0,.own (gs,gv) 12 0 l.length fl),(1,.int .i64 a),(2,.int .i64 b),(3,.int .i64 n),(4,.fn fid [] [])],rowH gs gv (swapsN l a b k)⟩) (fun _ _=>True) () trivial (by simp[swapsN,leR_refl]) fun k _ hk _=>?_
 have hw:=wrap64 (n:=(k:Int)+1) (by omega) (by omega)
 have hlen:=swapsN_len l a b k
 by_cases h1:k<n
 ·obtain⟨i,hi⟩ : ∃ i,i=a+k:=⟨_,rfl⟩
  obtain⟨j,hj⟩ : ∃ j,j=b+k:=⟨_,rfl⟩
  have e1:(a:Int)+k=(i:Nat):=by omega
  have e2:(b:Int)+k=(j:Nat):=by omega
  have w1:=wrap64 (n:=(i:Nat)) (by omega) (by omega)
  have w2:=wrap64 (n:=(j:Nat)) (by omega) (by omega)
  have q1:i<(swapsN l a b k).length:=by omega
  have q2:j<(swapsN l a b k).length:=by omega
  have q3:i<l.length:=by omega
  have q4:j<l.length:=by omega
  have hs:=rows_swap q1 q2
  have hrow:(((swapsN l a b k).map encObj).set i (cO (swapsN l a b k)[j]))[j]'(by simpa using q2)=cO (swapsN l a b k)[j]:=by
   rw[List.getElem_set]; split
   ·rfl
   ·simp
  have hst:swapsN l a b (k+1)=swapN (swapsN l a b k) i j:=by rw[hi,hj]; rfl
  rw[← hst] at hs
  obtain⟨l2,hl2⟩ : ∃ x,swapsN l a b (k+1)=x:=⟨_,rfl⟩
  rw[hl2] at hs hst
  generalize swapsN l a b k=l1 at *
  simp[h1,hw,e1,e2,w1,w2,q1,q2,q3,q4,hrow,hs,hl2,leR_refl]
 ·have:k=n:=by omega
  subst this
  simp[h1]
  intro a1 b1 _
  by_cases hk:a1=gs∧b1=gv<;>simp[hk,leR_refl]
theorem c_swapR (gs gv:Nat) (fl:Bool) (p x z y q:List Ob) (fid:Nat) {L:List Ob} {n a b k:Nat} (hL:L=p++x++z++y++q) (hn:n=L.length) (ha:a=p.length) (hb:b=p.length+k+z.length) (hx:x.length=k) (hy:y.length=k) (hl:n≤34359738368) :
 RetK prog M.F_slices_swapRangeCmpFunc_Obj [.own (gs,gv) 12 0 n fl,.int .i64 a,.int .i64 b,.int .i64 k,.fn fid [] []] (rowH gs gv L) (fun r h=>r=.tup []∧h=rowH gs gv (p++y++z++x++q)):=by
 have hlen:L.length=p.length+k+z.length+k+q.length:=by rw[hL]; simp[hx,hy]; omega
 have:=c_swapRange gs gv fl L a b k fid (by omega) (by omega) (by omega)
 rw[← hn] at this
 refine this.mono ?_
 rintro r h' ⟨h1,h2⟩
 refine⟨h1,?_⟩
 rw[h2,hL,swapsN_split p x z y q hx hy ha hb]
end Go.Proofs.YtfilonnphgnplaaGreatDoor.Pv
set_option maxRecDepth 100000
namespace Go.Proofs.YtfilonnphgnplaaGreatDoor.Pv
open Go Go.Tidy
structure RotG where
 p:List Ob
 x:List Ob
 y:List Ob
 q:List Ob
def RotG.l (g:RotG):List Ob:=g.p++g.x++g.y++g.q
set_option maxHeartbeats 4000000 in
theorem c_rotate (gs gv:Nat) (fl:Bool) (p x y q:List Ob) (fid:Nat) {L:List Ob} {n a m b:Nat} (hL:L=p++x++y++q) (hn:n=L.length) (ha:a=p.length) (hm:m=p.length+x.length) (hb:b=p.length+x.length+y.length) (px:0<x.length) (py:0<y.length) (hl:n≤34359738368) :
 RetK prog M.F_slices_rotateCmpFunc_Obj [.own (gs,gv) 12 0 n fl,.int .i64 a,.int .i64 m,.int .i64 b,.fn fid [] []] (rowH gs gv L) (fun r h=>r=.tup []∧h=rowH gs gv (p++y++x++q)):=by
 refine RetK.of hmix h_slices_rotateCmpFunc_Obj (by simp) fun E hP hV=>?_
 have hgV:=hV (gs,gv) ⟨12,L.map encObj,false,false⟩ (by simp[hk])
 obtain⟨P,w0,F0,nt,G,V,glob⟩:=E
 obtain rfl:P=prog:=hP
 obtain⟨R,hR⟩ : ∃ R,R=p++y++x++q:=⟨_,rfl⟩
 have hlen:L.length=p.length+x.length+y.length+q.length:=by rw[hL]; simp; omega
 rw[← hR]
 have w1:=wrap64 (n:=(x.length:Nat)) (by omega) (by omega)
 have w2:=wrap64 (n:=(y.length:Nat)) (by omega) (by omega)
 have e1:(m:Int)-a=(x.length:Nat):=by omega
 have e2:(b:Int)-m=(y.length:Nat):=by omega
 simp[e1,e2,w1,w2]
 obtain⟨J,hJ⟩ : ∃ J:RotG→Prop,J=fun g=>g.l.length=n∧0<g.x.length∧0<g.y.length∧g.p.length+g.x.length=m∧g.p++g.y++g.x++g.q=R:=⟨_,rfl⟩
 refine XLoop.go hmix (fun (g:RotG)=>⟨[(10,.int .i64 g.x.length),(11,.int .i64 g.y.length),(0,.own (gs,gv) 12 0 n fl),(1,.int .i64 a),(2,.int .i64 m),(3,.int .i64 b),(4,.fn fid [] [])],rowH gs gv g.l⟩) J (fun g=>g.x.length+g.y.length) ⟨p,x,y,q⟩ (by rw[hJ]; exact⟨by rw[hn,hL]; rfl,px,py,hm.symm,hR.symm⟩) (by simp[RotG.l,hL,leR_refl]) fun g hj=>?_
 have hj' : g.l.length=n∧0<g.x.length∧0<g.y.length∧g.p.length+g.x.length=m∧g.p++g.y++g.x++g.q=R:=by rw[hJ] at hj; exact hj
 clear hj
 obtain⟨j1,j2,j3,j4,j5⟩:=hj'
 have jl:g.p.length+g.x.length+g.y.length+g.q.length=n:=by rw[← j1]; simp[RotG.l]; omega
 have e3:(m:Int)-g.x.length=(g.p.length:Nat):=by omega
 have w3:=wrap64 (n:=(g.p.length:Nat)) (by omega) (by omega)
 by_cases h1:g.x.length=g.y.length
 ·have h1' : (g.x.length:Int)=g.y.length:=by omega
  have c1:=c_swapR gs gv fl g.p g.x [] g.y g.q fid (L:=g.l) (n:=n) (a:=g.p.length) (b:=m) (k:=g.x.length) (by simp[RotG.l]) j1.symm rfl (by simp; omega) rfl h1.symm (by omega)
  simp[h1',e3,w3]
  rw[← h1',e3,w3]
  refine XCall.retK c1 ?_
  rintro r h' ⟨rfl,rfl⟩
  simp only[List.append_nil]
  rw[j5]
  simp
  intro a1 b1 _
  by_cases hk:a1=gs∧b1=gv<;>simp[hk,leR_refl]
 ·have h1' : ¬ (g.x.length:Int)=g.y.length:=by omega
  by_cases h2:g.y.length<g.x.length
  ·have h2' : (g.y.length:Int)<g.x.length:=by omega
   have w4:=wrap64 (n:=((g.x.length-g.y.length:Nat):Int)) (by omega) (by omega)
   have e4:(g.x.length:Int)-g.y.length=((g.x.length-g.y.length:Nat):Int):=by omega
   obtain⟨x1,x2,hx,hx1⟩ : ∃ x1 x2,g.x=x1++x2∧x1.length=g.y.length:=⟨g.x.take g.y.length,g.x.drop g.y.length,(List.take_append_drop _ _).symm,by simp; omega⟩
   have hx2:x2.length=g.x.length-g.y.length:=by rw[hx]; simp; omega
   have c1:=c_swapR gs gv fl g.p x1 x2 g.y g.q fid (L:=g.l) (n:=n) (a:=g.p.length) (b:=m) (k:=g.y.length) (by simp[RotG.l,hx]) j1.symm rfl (by omega) hx1 rfl (by omega)
   rw[← hx2] at w4 e4
   simp[h1']
   refine XCut.go hmix ?_
   simp[h2',e3,w3]
   refine XCall.retK c1 ?_
   rintro r h' ⟨rfl,rfl⟩
   simp[e4,w4]
   exact⟨⟨g.p++g.y,x2,x1,g.q⟩,by rw[hJ]; exact⟨by rw[← j1]; simp[RotG.l,hx]; omega,by simp only; omega,by simp only; omega,by simp; omega,by rw[← j5,hx]; simp⟩,by simp only; omega,by simp[RotG.l,leR_refl,hx1]⟩
  ·have h2' : ¬ (g.y.length:Int)<g.x.length:=by omega
   have w4:=wrap64 (n:=((g.y.length-g.x.length:Nat):Int)) (by omega) (by omega)
   have e4:(g.y.length:Int)-g.x.length=((g.y.length-g.x.length:Nat):Int):=by omega
   obtain⟨y1,y2,hy,hy2⟩ : ∃ y1 y2,g.y=y1++y2∧y2.length=g.x.length:=⟨g.y.take (g.y.length-g.x.length),g.y.drop (g.y.length-g.x.length),(List.take_append_drop _ _).symm,by simp; omega⟩
   have hy1:y1.length=g.y.length-g.x.length:=by rw[hy]; simp; omega
   have c1:=c_swapR gs gv fl g.p g.x y1 y2 g.q fid (L:=g.l) (n:=n) (a:=g.p.length) (b:=m+g.y.length-g.x.length) (k:=g.x.length) (by simp[RotG.l,hy]) j1.symm rfl (by omega) rfl hy2 (by omega)
   obtain⟨b',hb'⟩ : ∃ b',b'=m+g.y.length-g.x.length:=⟨_,rfl⟩
   rw[← hb'] at c1
   have e5:(m:Int)+g.y.length=((m+g.y.length:Nat):Int):=by omega
   obtain⟨s,hs⟩ : ∃ s,s=m+g.y.length:=⟨_,rfl⟩
   have e5:(m:Int)+g.y.length=(s:Nat):=by omega
   have e6:(s:Int)-g.x.length=(b' : Nat):=by omega
   have w5:=wrap64 (n:=(s:Nat)) (by omega) (by omega)
   have w6:=wrap64 (n:=(b' : Nat)) (by omega) (by omega)
   rw[← hy1] at w4 e4
   simp[h1']
   refine XCut.go hmix ?_
   simp[h2',e3,w3,e5,w5,e6,w6]
   refine XCall.retK c1 ?_
   rintro r h' ⟨rfl,rfl⟩
   simp[e4,w4]
   exact⟨⟨g.p,y2,y1,g.x++g.q⟩,by rw[hJ]; exact⟨by rw[← j1]; simp[RotG.l,hy]; omega,by simp only; omega,by simp only; omega,by simp only; omega,by rw[← j5,hy]; simp⟩,by simp only; omega,by simp[RotG.l,leR_refl,hy2]⟩
end Go.Proofs.YtfilonnphgnplaaGreatDoor.Pv

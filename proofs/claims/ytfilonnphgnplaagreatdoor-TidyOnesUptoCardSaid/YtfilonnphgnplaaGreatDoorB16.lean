/- Part 16. -/
import Derived.Test.YtfilonnphgnplaaGreatDoorB15
set_option linter.unusedSimpArgs false
set_option linter.unusedVariables false
set_option maxRecDepth 100000
namespace Go.Proofs.YtfilonnphgnplaaGreatDoor.Pv
open Go Go.Tidy
structure LibOk:Prop where
 keys:∃ kt et,SortedKeys prog 164 kt et M.F_maps_Keys_int M.F_slices_Sorted_string
 del:DeletesO prog M.F_slices_Delete_Obj
theorem fit_alone {NM:List S} {m:Nat} (hn:NM.length≤34359738368) (hm:0<m) {o:Ob} (h:formedO o=true) (hb:bdO NM m o):FitT (aloneT o) :=
 ⟨alone_formed h,nm_of_bd hn _ (alone_formed h) (bd_alone hm hb)⟩
theorem pobjects_all (hL:LibOk) (h:Int) (N:Ty→Ty) (NM:List S) (B:Nat) (hN:NormOk M.F_tidy_normal h N NM B) (hNf:∀ t,formedT t=true→formedT (N t)=true) (hNn:∀ t,formedT t=true→never (N t)=never t) (hNb:∀ t m,bdT NM m t→bdT NM 4 (N t)) (h3:NM.length≤134217728) (hM:4*(NM.length+1)≤B)
 (l:List Ob) (hf:∀ o∈l,formedO o=true) (hb4:∀ o∈l,bdO NM 4 o) (hl:l.length≤1073741824) (hB:4*l.length≤B):Ret prog M.F_tidy_objects [.vec 12 false (l.map encObj),.int .i64 h] (.vec 12 false ((objectsO N l).map encObj)):=by
 obtain⟨kt,et,hk⟩:=hL.keys
 have hd:∀ x∈(passO l).drop 3,x∈l:=fun x hx=>passO_mem x (List.mem_of_mem_drop hx)
 have hpl:=passO_len l
 have key:=tobjects_step hL.del h l (objectO N (oneO ((passO l).drop 3))) (fun o=>formedO o=true∧bdO NM 4 o) (by omega) (fun o h=>h.1) (fun o h=>fit_alone (by omega) (by omega) h.1 h.2) (fun o h=>maxOk_O h.1) (fun o ho=>⟨hf o ho,hb4 o ho⟩) (fun h4=>by
  have hne:(passO l).drop 3≠[]:=fun e=>by have:=congrArg List.length e; simp at this; omega
  have fo:=formed_oneO (fun o ho=>hf o (hd o ho)) hne
  have bo:=bd_oneO fun o ho=>hb4 o (hd o ho)
  refine⟨⟨formed_objectO hNf hNn fo,bd_objectO hNb bo⟩,c_tidy_one hk NM 4 _ (fun o ho=>hf o (hd o ho)) (fun o ho=>hb4 o (hd o ho)) (by simp; omega) (by simp; omega) h3,?_⟩
  refine object_step h N NM B _ hN hNf hNn hNb (by omega) hM _ fo bo ?_
  simp; omega)
 exact key
def capM (h:Nat):Nat:=40001*4 ^ (8-h)
theorem capM_step {h:Nat} (hh:h<8):capM h=4*capM (h+1):=by
 unfold capM
 have:8-h=(8-(h+1))+1:=by omega
 rw[this,Nat.pow_succ,← Nat.mul_assoc,Nat.mul_comm]
theorem capM_ge (h:Nat):40001≤capM h:=Nat.le_mul_of_pos_right _ (Nat.pow_pos (by omega))
theorem capM_le {h:Nat} (hh:1≤h):capM h≤1073741824:=by
 unfold capM
 have h1:4 ^ (8-h)≤4 ^ 7:=Nat.pow_le_pow_right (by omega) (by omega)
 calc 40001*4 ^ (8-h)≤40001*4 ^ 7:=Nat.mul_le_mul (by omega) h1
  _≤1073741824:=by decide
theorem pnormal (hL:LibOk) (NM:List S) (hn:NM.length≤40000):∀ h:Nat,h≤8→NormOk M.F_tidy_normal h (normalT h) NM (capM h):=by
 intro h
 induction h with
 | zero =>
   intro _ t m ht hb hm
   rw[normalT_zero]
   split
   ·rename_i hc
    refine tnormal_every _ t ?_
    simp only[Bool.or_eq_true,Bool.not_eq_true',List.isEmpty_eq_false_iff] at hc
    rcases hc with (hc|hc)|hc
    ·exact .inl hc
    ·exact .inr ⟨by simp,.inl hc⟩
    ·exact .inr ⟨by simp,.inr hc⟩
   ·rename_i hc
    simp only[Bool.or_eq_true,Bool.not_eq_true',not_or,Bool.not_eq_true,Bool.not_eq_false,List.isEmpty_iff,List.isEmpty_eq_false_iff,Decidable.not_not,ne_eq] at hc
    obtain⟨⟨e0,ea⟩,eo⟩:=hc
    have:=tnormal_step ((0:Nat):Int) t [] id id (by simp) (by simp) e0 (fun _=>⟨ea,eo⟩) (by rw[ea]; exact fin_formed ht (by simp) (by simp) (by simp)) (by rw[eo]; simp) (by rw[ea]; simp) (by rw[ea]; simp) (by rw[eo]; simp) (by
     rw[eo]
     have:=tobjects_step hL.del (((0:Nat):Int)-1) [] (.mk [] [] [] tNever) (fun o=>formedO o=true∧bdO NM 4 o) (by simp) (fun o h=>h.1) (fun o h=>fit_alone (by omega) (by omega) h.1 h.2) (fun o h=>maxOk_O h.1) (by simp) (fun h4=>by simp[passO,rowO,outerO] at h4)
     simpa[passO,rowO,outerO] using this)
    rw[ea] at this
    exact this
 | succ h ih =>
   intro h8 t m ht hb hm
   have ih':=ih (by omega)
   have hcs:=capM_step (h:=h) (by omega)
   have hc1:=capM_ge (h+1)
   have hcg:4*(NM.length+1)≤capM h:=by omega
   have hcl:=capM_le (h:=h+1) (by omega)
   rw[normalT_succ]
   split
   ·rename_i hc
    exact tnormal_every _ t (.inl hc)
   ·rename_i hc
    obtain⟨t1,t2,t3,t4,t5,t6,t7,t8⟩:=formedT_spec ht
    have hbi:=bdT_iff.1 hb
    have eh:(((h+1:Nat):Int)-1)=(h:Int):=by omega
    have hNn:∀ t,formedT t=true→never (normalT h t)=never t:=fun t ht=>never_normalT h t ht
    have hW:∀ o∈t.objects,Ret prog M.F_tidy_object [.agg (cO o),.int .i64 h] (.agg (cO (objectO (normalT h) o))):=fun o ho =>
     object_step h (normalT h) NM (capM h) m ih' (formed_normalT h) hNn (bd_normalT h) (by omega) hcg o (t8 o ho) (hbi.2.2.2 o ho) (by omega)
    have hfm:∀ o∈t.objects.map (objectO (normalT h)),formedO o=true:=fun o ho=>by
     obtain⟨x,hx,rfl⟩:=List.mem_map.1 ho
     exact formed_objectO (formed_normalT h) hNn (t8 x hx)
    have hbm:∀ o∈t.objects.map (objectO (normalT h)),bdO NM 4 o:=fun o ho=>by
     obtain⟨x,hx,rfl⟩:=List.mem_map.1 ho
     exact bd_objectO (bd_normalT h) (hbi.2.2.2 x hx)
    have hO:=pobjects_all hL h (normalT h) NM (capM h) ih' (formed_normalT h) hNn (bd_normalT h) (by omega) hcg (t.objects.map (objectO (normalT h))) hfm hbm (by simp; omega) (by simp; omega)
    refine tnormal_step ((h+1:Nat):Int) t _ (objectO (normalT h)) (normalT h) (by omega) (by omega) (by simpa using hc) (fun h1=>by omega) ?_ (by omega) t6 (fun a ha=>?_) (fun o ho=>?_) ?_
    ·refine fin_formed ht (by simpa using t6) (fun a ha=>?_) (formed_objectsO (formed_normalT h) hNn hfm)
     obtain⟨x,hx,rfl⟩:=List.mem_map.1 ha
     obtain⟨x1,x2,x3,x4,x5⟩:=formedA_spec (t7 x hx)
     exact formedA_intro x1 x2 x3 (formed_normalT h _ x4) (by rw[Arr.item_mk,hNn _ x4]; exact x5)
    ·rw[eh]
     exact ih' a.item m (formedA_spec (t7 a ha)).2.2.2.1 (hbi.2.2.1 a ha) (by omega)
    ·rw[eh]; exact hW o ho
    ·rw[eh]; exact hO
theorem p_form (hL:LibOk) (NM:List S) (hn:NM.length≤40000) (t:Ty) (m:Nat) (hm:m≤40001) (hb:bdT NM m t) (hh:heightT t<1073741824) (ht:formedT t=true):Ret prog M.F_tidy_form [.agg (cT t)] (.agg (cT (formT t))) :=
 tform_step t hh (fun h h8=>pnormal hL NM hn h h8 t m ht hb (Nat.le_trans hm (capM_ge h))) fun h h8 =>
  ⟨⟨formed_normalT h t ht,nm_of_bd (by omega) _ (formed_normalT h t ht) (bd_normalT h t m hb)⟩,by have:=height_normalT h t 8 (.inr h8); omega⟩
theorem bd_formT {NM:List S} {m:Nat} {t:Ty} (hb:bdT NM m t):bdT NM 4 (formT t):=by
 obtain⟨k,_,e⟩:=formT_is t
 rw[e]; exact bd_normalT k t m hb
theorem p_Tidy (hL:LibOk) (NM:List S) (hn:NM.length≤40000) (t:Ty) (m:Nat) (hm:m≤40001) (hb:bdT NM m t) (hh:heightT t<1073741824):Ret prog M.F_tidy_Tidy [.agg (cT t)] (.tup [.agg (cT (if formedT t then formT t else tNever)),.int .i64 (if formedT t then 0 else 1)]) :=
 tTidy_step t (p_form hL NM hn t m hm hb hh) fun ht=>c_shape_Twin NM 4 (by omega) (by omega) _ (formT_formed ht) (bd_formT hb)
theorem p_Is (hL:LibOk) (NM:List S) (hn:NM.length≤40000) (t:Ty) (m:Nat) (hm:m≤40001) (hb:bdT NM m t) (hh:heightT t<1073741824):Ret prog M.F_tidy_Is [.agg (cT t)] (.bool (formedT t&&sameT t (formT t))) :=
 tIs_step t (p_form hL NM hn t m hm hb hh) formT_formed
theorem p_Sum (a b:Ty) (NM:List S) (m:Nat) (hn:NM.length≤40000) (hm:2*m≤4294967296) (hba:bdT NM m a) (hbb:bdT NM m b):Ret prog M.F_tidy_Sum [.agg (cT a),.agg (cT b)] (.tup [.agg (cT (if formedT a&&formedT b then sumT a b else tNever)),.int .i64 (if formedT a&&formedT b then 0 else 1)]) :=
 tSum_step a b NM m hm hba hbb fun ha hb=>c_shape_Twin NM (m+m) (by omega) (by omega) _ (formed_sumT a b ha hb) (bd_sum hba hbb)
end Go.Proofs.YtfilonnphgnplaaGreatDoor.Pv
set_option maxRecDepth 100000
namespace Go.Proofs.YtfilonnphgnplaaGreatDoor.Pv
open Go Go.Tidy
theorem p_cut0 (t:Ty) (h:t.all=true∨(t.arrays≠[]∨t.objects≠[])):Ret prog M.F_tidy_cut [.agg (cT t),.int .i64 0] (.agg (cT tEvery)):=by
 refine Ret.go hmix h_tidy_cut (by simp) fun hb w0 F0 hG=>?_
 simp only[bndL,bndV,List.length_map,LIM,and_true] at hb
 cases e0:t.all
 ·have h2:t.arrays≠[]∨t.objects≠[]:=by simpa[e0] using h
  have hl:0<(t.arrays.length:Int)+t.objects.length:=by
   rcases h2 with h2|h2
   ·have:=List.length_pos_iff.2 h2; omega
   ·have:=List.length_pos_iff.2 h2; omega
  have w:=wrap64 (n:=(t.arrays.length:Int)+t.objects.length) (by omega) (by omega)
  simp[e0,hl,w]
  intros
  refine XCall.ret c_shape_Every ?_
  simp[tEvery]
 ·simp[e0]
  intros
  refine XCall.ret c_shape_Every ?_
  simp[tEvery]
theorem p_Cut0 (t:Ty) (ht:formedT t=true) (h:t.all=true∨(t.arrays≠[]∨t.objects≠[])):Ret prog M.F_tidy_Cut [.agg (cT t),.int .i64 0] (.tup [.agg (cT tEvery),.int .i64 0]):=by
 refine Ret.go hmix h_tidy_Cut (by simp) fun hb w0 F0 hG=>?_
 have c1:=c_shape_Formed t
 have c2:=p_cut0 t h
 rw[ht] at c1
 simp
 intro v2 v4
 refine XCall.ret (by simpa using c1) ?_
 simp
 refine XCall.ret (by simpa using c2) ?_
 simp
set_option maxHeartbeats 4000000 in
theorem p_One (hL:LibOk) (NM:List S) (m:Nat) (l:List Ob) (hne:l≠[]) (hf:∀ o∈l,formedO o=true) (hm:∀ o∈l,bdO NM m o) (h0:0<m) (h4:l.length*m≤4294967296) (hNM:NM.length≤134217728) :
 Ret prog M.F_tidy_One [.vec 12 false (l.map encObj)] (.tup [.agg (cO (oneO l)),.int .i64 0]):=by
 obtain⟨kt,et,hk⟩:=hL.keys
 have hl0:0<l.length:=List.length_pos_iff.2 hne
 have hlm:l.length≤l.length*m:=Nat.le_mul_of_pos_right _ h0
 have c1:=c_tidy_one hk NM m l hf hm h4 (by omega) hNM
 have f1:=formed_oneO hf hne
 have c2:=c_tidy_alone (oneO l)
 have c3:=c_shape_Twin NM (l.length*m) (by omega) (by omega) (aloneT (oneO l)) (alone_formed f1) (bd_alone (by omega) (bd_oneO hm))
 refine Ret.go hmix h_tidy_One (by simp) fun hb w0 F0 hG=>?_
 generalize oneO l=r at *
 have g0:¬ (l.length:Int)=0:=by omega
 simp[g0,hne]
 intro v2
 refine XLoop.cntR hmix [] rfl l.length (fun v k (_:Unit)=>⟨[(12,.int .i64 k),(11,.int .i64 l.length),(10,.vec 12 false (l.map encObj)),(3,.int .i64 0),(2,.ptr (2,v2) 12 0 0),(0,.vec 12 false (l.map encObj))],[((2,v2),some ⟨12,[M.z4],false,true⟩)]⟩) (fun _ _=>True) () trivial (fun v=>by simp) fun v k _ _ hk _=>?_
 have hw:=wrap64 (n:=(k:Int)+1) (by omega) (by omega)
 by_cases g:k<l.length
 ·have ho:=hf _ (List.getElem_mem g)
  have d1:=c_tidy_alone l[k]
  have d2:=c_shape_Formed (aloneT l[k])
  rw[alone_formed ho] at d2
  generalize eo:l[k]=o at *
  simp[g,eo]
  intro v3
  refine XCall.ret (by simpa using d1) ?_
  simp[g,eo]
  refine XCall.ret (by simpa using d2) ?_
  simp[g,hw]
 ·simp[g]
  refine XCall.ret (by simpa using c1) ?_
  simp
  refine XCall.ret (by simpa using c2) ?_
  simp
  refine XCall.ret (by simpa using c3) ?_
  simp[aloneT]
end Go.Proofs.YtfilonnphgnplaaGreatDoor.Pv
set_option maxRecDepth 100000
namespace Go.Proofs.YtfilonnphgnplaaGreatDoor.Pv
open Go Go.Tidy
abbrev xA:S:=⟨#[97]⟩
abbrev xB:S:=⟨#[98]⟩
abbrev xNull:Ty:=.mk false true false false [] false [] [] []
abbrev xTrue:Ty:=.mk false false false true [] false [] [] []
abbrev xNo:Ty:=.mk false false false false [] false [] [] []
abbrev xO1:Ob:=.mk [xA,xB] [xNull,xNull] [false,true] xNull
abbrev xO2:Ob:=.mk [xB] [xNull] [true] xNull
abbrev xO3:Ob:=.mk [xA] [xNo] [false] xNo
abbrev xO4:Ob:=.mk [xA,xB] [xNull,xNull] [false,false] xNull
abbrev xT1:Ty:=.mk false false false false [] false [] [] [xO1]
abbrev xT2:Ty:=.mk false false false false [] false [] [] [xO2]
theorem x_form:formT xT1=xT2:=by kernel_rfl
theorem x_formed:formedT xT1=true:=by kernel_rfl
theorem x_is:(formedT xNull&&sameT xNull (formT xNull))=true:=by kernel_rfl
theorem x_isnt:(formedT xT1&&sameT xT1 (formT xT1))=false:=by kernel_rfl
theorem x_sum:sumT xNull xTrue=.mk false true false true [] false [] [] []:=by kernel_rfl
theorem x_one:oneO [xO1,xO3]=xO4:=by kernel_rfl
theorem x_bd:bdT [xA,xB] 4 xT1:=by simp[bdT,bdAs,bdOs,bdTs,bdO]
theorem x_bdN:bdT [xA,xB] 4 xNull:=by simp[bdT,bdAs,bdOs,bdTs,bdO]
theorem x_bdT:bdT [xA,xB] 4 xTrue:=by simp[bdT,bdAs,bdOs,bdTs,bdO]
theorem x_bdO:∀ o∈[xO1,xO3],bdO [xA,xB] 4 o:=by simp[bdT,bdAs,bdOs,bdTs,bdO]
theorem x1 (hL:LibOk):Ret prog M.F_tidy_Tidy [.agg (cT xT1)] (.tup [.agg (cT xT2),.int .i64 0]):=by
 have:=p_Tidy hL [xA,xB] (by simp) xT1 4 (by omega) x_bd (by decide)
 rw[x_formed,x_form] at this
 simpa using this
theorem x2 (hL:LibOk):Ret prog M.F_tidy_Is [.agg (cT xNull)] (.bool true):=by
 have:=p_Is hL [xA,xB] (by simp) xNull 4 (by omega) x_bdN (by decide)
 rw[x_is] at this
 exact this
theorem x3 (hL:LibOk):Ret prog M.F_tidy_Is [.agg (cT xT1)] (.bool false):=by
 have:=p_Is hL [xA,xB] (by simp) xT1 4 (by omega) x_bd (by decide)
 rw[x_isnt] at this
 exact this
theorem x4:Ret prog M.F_tidy_Sum [.agg (cT xNull),.agg (cT xTrue)] (.tup [.agg (cT (.mk false true false true [] false [] [] [])),.int .i64 0]):=by
 have:=p_Sum xNull xTrue [xA,xB] 4 (by simp) (by omega) x_bdN x_bdT
 rw[show formedT xNull=true by kernel_rfl,show formedT xTrue=true by kernel_rfl,x_sum] at this
 simpa using this
theorem x5:Ret prog M.F_tidy_Cut [.agg (cT xT2),.int .i64 0] (.tup [.agg (cT tEvery),.int .i64 0]):=p_Cut0 xT2 (by kernel_rfl) (.inr (.inr (by simp)))
theorem x6 (hL:LibOk):Ret prog M.F_tidy_One [.vec 12 false ([xO1,xO3].map encObj)] (.tup [.agg (cO xO4),.int .i64 0]):=by
 have:=p_One hL [xA,xB] 4 [xO1,xO3] (by simp) (by
  intro o ho
  simp only[List.mem_cons,List.not_mem_nil,or_false] at ho
  rcases ho with rfl|rfl<;>kernel_rfl) x_bdO (by omega) (by simp) (by simp)
 rw[x_one] at this
 exact this
set_option maxHeartbeats 8000000 in
theorem c_law11_fixed (hL:LibOk):Ret prog M.F_law11_fixed [] (.bool true):=by
 refine Ret.go hmix h_law11_fixed (by simp) fun hb w0 F0 hG=>?_
 have y1:=x1 hL
 have y2:=x2 hL
 have y3:=x3 hL
 have y4:=x4
 have y5:=x5
 have y6:=x6 hL
 simp
 intros
 have hs:sEq xB ⟨#[98]⟩=true:=by kernel_rfl
 refine XCall.ret (by first|exact y1|(simp; exact y1)) ?_
 simp[hs]
 intros
 refine XCall.ret (by first|exact y2|(simp; exact y2)) ?_
 simp[hs]
 intros
 refine XCall.ret (by first|exact y3|(simp; exact y3)) ?_
 simp[hs]
 intros
 refine XCall.ret (by first|exact y4|(simp; exact y4)) ?_
 simp[hs]
 intros
 refine XCall.ret (by first|exact y5|(simp; exact y5)) ?_
 simp[hs,tEvery]
 intros
 refine XCall.ret (by first|exact y6|(simp; exact y6)) ?_
 simp[hs]
end Go.Proofs.YtfilonnphgnplaaGreatDoor.Pv
set_option maxRecDepth 100000
namespace Go.Proofs.YtfilonnphgnplaaGreatDoor.Pv
open Go Go.Tidy
def nmsP (t:Ty):List S:=nmsT t++List.replicate (20000-(nmsT t).length) ByteArray.empty
theorem fit_all {t:Ty} (h:fitB t=true):(nmsP t).length=20000∧szT t≤20000∧bdT (nmsP t) (szT t) t:=by
 obtain⟨h1,h2,_⟩:=fit_bdT (of_decide_eq_true h)
 exact⟨by simp[nmsP]; omega,h2,bd_sz t (fun n hn=>List.mem_append_left _ hn) (Nat.le_refl _)⟩
end Go.Proofs.YtfilonnphgnplaaGreatDoor.Pv

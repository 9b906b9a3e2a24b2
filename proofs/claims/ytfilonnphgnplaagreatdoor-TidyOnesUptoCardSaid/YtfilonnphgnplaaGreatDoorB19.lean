/- Part 19. -/
import Derived.Test.YtfilonnphgnplaaGreatDoorB18
import Derived.Test.YtfilonnphgnplaaGreatDoorRows
import Derived.Deep.DeepHandedRow
import Derived.LaidLaws
set_option linter.unusedSimpArgs false
set_option linter.unusedVariables false
namespace Go.Tidy
open Go
mutual
def limT:Ty→Bool
 | .mk _ _ _ _ _ _ ts az os=>decide (ts.length≤16)&&decide (os.length≤4)&&limAs az&&limOs os
def limAs:List Arr→Bool
 | []=>true
 | .mk t _ _::l=>limT t&&limAs l
def limOs:List Ob→Bool
 | []=>true
 | .mk ns fs _ r::l=>decide (ns.length≤12)&&limT r&&limTs fs&&limOs l
def limTs:List Ty→Bool
 | []=>true
 | t::l=>limT t&&limTs l
end
def limO (o:Ob):Prop:=o.names.length≤12∧limT o.rest=true∧∀ f∈o.fields,limT f=true
theorem limAs_iff:∀ {l:List Arr},limAs l=true↔∀ a∈l,limT a.item=true
 | []=>by simp[limAs]
 | .mk t lo hi::l=>by simp[limAs,limAs_iff (l:=l)]
theorem limTs_iff:∀ {l:List Ty},limTs l=true↔∀ a∈l,limT a=true
 | []=>by simp[limTs]
 | t::l=>by simp[limTs,limTs_iff (l:=l)]
theorem limOs_iff:∀ {l:List Ob},limOs l=true↔∀ o∈l,limO o
 | []=>by simp[limOs]
 | .mk ns fs ms r::l=>by simp[limOs,limO,limOs_iff (l:=l),limTs_iff,and_assoc]
theorem limT_iff {t:Ty}:limT t=true↔t.texts.length≤16∧t.objects.length≤4∧(∀ a∈t.arrays,limT a.item=true)∧∀ o∈t.objects,limO o:=by
 obtain⟨a,b,c,d,ns,e,ts,az,os⟩:=t
 simp only[limT,Bool.and_eq_true,decide_eq_true_eq,limAs_iff,limOs_iff,Ty.texts_mk,Ty.objects_mk,Ty.arrays_mk,and_assoc]
theorem lim_every:limT tEvery=true:=by rw[limT_iff]; simp[tEvery]
def outT (t:Ty) (az:List Arr) (os:List Ob):Ty:=.mk false t.null t.fls t.tru t.nums (t.any||decide (16<t.texts.length)) (if 16<t.texts.length then [] else t.texts) az os
theorem finT_out (t:Ty) (az:List Arr) (os:List Ob):finT t az os=if sameT (outT t az os) laidAll then tEvery else outT t az os:=rfl
theorem formed_outT {t:Ty} (ht:formedT t=true) {az:List Arr} {os:List Ob} (h1:az.length≤1) (h2:∀ a∈az,formedA a=true) (h3:∀ o∈os,formedO o=true):formedT (outT t az os)=true:=by
 obtain⟨f1,f2,f3,f4,f5,f6,f7,f8⟩:=formedT_spec ht
 refine formedT_intro (fun h=>by cases h) ?_ ?_ f4 f5 h1 h2 h3
 ·show riseB (if 16<t.texts.length then [] else t.texts)=true
  split
  ·rfl
  ·exact f2
 ·intro h
  have h:(t.any||decide (16<t.texts.length))=true:=h
  show (if 16<t.texts.length then [] else t.texts)=[]
  split
  ·rfl
  ·rename_i k
   exact f3 (by simpa[k] using h)
theorem fin_in {t:Ty} (ht:formedT t=true) {az:List Arr} {os:List Ob} (h1:az.length≤1) (h2:∀ a∈az,formedA a=true) (h3:∀ o∈os,formedO o=true) (h16:t.texts.length≤16) {v:Val} (hv:formedV v=true) (h:inT (finT t az os) v=true)
 (hA:headB (inA · v) az=true→headB (inA · v) t.arrays=true) (hO:v.kind=6→os.any (inO · v)=true→t.objects.any (inO · v)=true):inT t v=true:=by
 have h:inT (outT t az os) v=true:=by
  rw[finT_out] at h
  split at h
  ·rename_i hs
   rw[(sameT_iff (formed_outT ht h1 h2 h3) laidAll_formed).1 hs]
   exact in_laidAll hv
  ·exact h
 obtain⟨v1,v2,_⟩:=formedV_spec hv
 rw[inT_def] at h
 rw[inT_def,Bool.or_eq_true]
 right
 have e16:¬ 16<t.texts.length:=by omega
 simp only[outT,Ty.all_mk,Ty.null_mk,Ty.fls_mk,Ty.tru_mk,Ty.nums_mk,Ty.any_mk,Ty.texts_mk,Ty.arrays_mk,Ty.objects_mk,Bool.false_or,if_neg e16,decide_eq_false e16,Bool.or_false] at h
 by_cases k0:v.kind=0
 ·simpa only[if_pos k0] using h
 by_cases k1:v.kind=1
 ·simpa only[if_neg k0,if_pos k1] using h
 by_cases k2:v.kind=2
 ·simpa only[if_neg k0,if_neg k1,if_pos k2] using h
 by_cases k3:v.kind=3
 ·simpa only[if_neg k0,if_neg k1,if_neg k2,if_pos k3] using h
 by_cases k4:v.kind=4
 ·simpa only[if_neg k0,if_neg k1,if_neg k2,if_neg k3,if_pos k4] using h
 by_cases k5:v.kind=5
 ·simp only[if_neg k0,if_neg k1,if_neg k2,if_neg k3,if_neg k4,if_pos k5] at h ⊢
  exact hA h
 ·simp only[if_neg k0,if_neg k1,if_neg k2,if_neg k3,if_neg k4,if_neg k5] at h ⊢
  exact hO (by omega) h
theorem spare_len (o:Ob):(spareO o).names.length≤(tripO o).length:=by
 rw[spareO_eq]
 show ((List.filter _ _).map _).length≤_
 rw[List.length_map]; exact List.length_filter_le _ _
theorem trip_len (o:Ob):(tripO o).length≤o.names.length:=by unfold tripO; rw[List.length_zip]; omega
theorem object_short {N:Ty→Ty} {o:Ob} (h:o.names.length≤12):objectO N o=spareO (.mk o.names (o.fields.map N) o.must (N o.rest)):=by
 unfold objectO trimO
 simp only
 rw[if_pos]
 have h1:=spare_len (.mk o.names (o.fields.map N) o.must (N o.rest))
 have h2:=trip_len (.mk o.names (o.fields.map N) o.must (N o.rest))
 simp only[Ob.names_mk] at h2
 omega
theorem objects_short (N:Ty→Ty) {l:List Ob} (h:l.length≤4):objectsO N l=outerO [] (rowO l):=by
 unfold objectsO
 simp only
 rw[if_pos]
 have h1:=(rowO_sub l).2.1
 have h2:=(outerO_len (rowO l) []).1
 simp only[List.length_nil] at h2
 omega
theorem normal_in:∀ (h:Nat) (t:Ty),formedT t=true→limT t=true→heightT t≤h→∀ v,formedV v=true→inT (normalT h t) v=true→inT t v=true:=by
 intro h
 induction h with
 | zero =>
   intro t ht hl hh v hv hi
   have h0:=height_le_zero.1 hh
   have hl:=limT_iff.1 hl
   rw[normalT_zero] at hi
   by_cases ha:t.all=true
   ·rw[all_every ht ha]; exact in_every v
   ·rw[h0.1,h0.2] at hi
    simp only[Bool.not_eq_true] at ha
    simp only[ha,List.isEmpty_nil,Bool.not_true,Bool.or_self,Bool.false_eq_true,if_false] at hi
    exact fin_in ht (by simp) (by simp) (by simp) hl.1 hv hi (fun k=>by cases k) (fun _ k=>by simp at k)
 | succ h ih =>
   intro t ht hl hh v hv hi
   obtain⟨l1,l2,l3,l4⟩:=limT_iff.1 hl
   obtain⟨f1,f2,f3,f4,f5,f6,f7,f8⟩:=formedT_spec ht
   have hs:=height_le_succ.1 hh
   have hN:=formed_normalT h
   have hn:∀ t,formedT t=true→never (normalT h t)=never t:=fun t ht=>never_normalT h t ht
   rw[normalT_succ] at hi
   by_cases ha:t.all=true
   ·rw[all_every ht ha]; exact in_every v
   rw[if_neg ha] at hi
   have fl:∀ o∈t.objects.map (objectO (normalT h)),formedO o=true:=fun o ho=>by
    obtain⟨x,hx,rfl⟩:=List.mem_map.1 ho
    exact formed_objectO hN hn (f8 x hx)
   have e4:(t.objects.map (objectO (normalT h))).length≤4:=by simpa using l2
   refine fin_in ht (by simpa using f6) (fun a ha=>?_) (formed_objectsO hN hn fl) l1 hv hi (fun k=>?_) (fun h6 k=>?_)
   ·obtain⟨x,hx,rfl⟩:=List.mem_map.1 ha
    obtain⟨a1,a2,a3,a4,a5⟩:=formedA_spec (f7 x hx)
    exact formedA_intro a1 a2 a3 (hN _ a4) (by rw[Arr.item_mk,hn _ a4]; exact a5)
   ·cases hz:t.arrays with
    | nil=>rw[hz] at k; cases k
    | cons x az =>
      rw[hz] at k
      obtain⟨c1,c2,c3⟩:=inA_iff.1 k
      have hx:x∈t.arrays:=by rw[hz]; simp
      exact inA_iff.2 ⟨c1,c2,fun u hu=>ih _ (formedA_spec (f7 x hx)).2.2.2.1 (l3 x hx) (hs.1 x hx) u ((formedV_spec hv).2.2.2.2 u hu) (c3 u hu)⟩
   ·rw[objects_short _ e4] at k
    obtain⟨o,ho,hio⟩:=List.any_eq_true.1 k
    have ho:o∈t.objects.map (objectO (normalT h)):=by
     rcases outerO_sub _ _ o ho with q|q
     ·cases q
     ·exact (mem_rowO fl).1 q
    obtain⟨x,hx,rfl⟩:=List.mem_map.1 ho
    have fx:=f8 x hx
    have lx:=l4 x hx
    have sx:=hs.2 x hx
    refine List.any_eq_true.2 ⟨x,hx,?_⟩
    have fm:=formed_mapO hN hn fx
    rw[object_short lx.1,in_spare fm hv h6,inO_field fm hv h6] at hio
    rw[inO_field fx hv h6]
    intro n
    have:=hio n
    rw[fieldO_map n] at this
    refine⟨fun y hy=>ih _ (fieldO_formed fx n).1 ?_ (hle_field sx n) y ((formedV_spec hv).2.2.2.2 y (List.of_mem_zip (getV_zip hy)).2) (this.1 y hy),this.2⟩
    rcases fieldO_in x n with q|q
    ·exact lx.2.2 _ q
    ·rw[q]; exact lx.2.1
def partsO (o:Ob):Nat:=partsT o.rest+partsTs o.fields
def sumP {α:Type} (f:α→Nat) (l:List α):Nat:=(l.map f).foldr (·+·) 0
theorem sumP_cons {α:Type} (f:α→Nat) (a:α) (l:List α):sumP f (a::l)=f a+sumP f l:=rfl
theorem sumP_sub {α:Type} (f:α→Nat) {l m:List α} (h:l.Sublist m):sumP f l≤sumP f m:=by
 induction h with
 | slnil=>exact Nat.le_refl _
 | cons a h ih=>rw[sumP_cons]; omega
 | cons_cons a h ih=>rw[sumP_cons,sumP_cons]; omega
theorem sumP_map {α β:Type} (f:β→Nat) (g:α→β) (k:α→Nat):∀ {l:List α},(∀ a∈l,f (g a)≤k a)→sumP f (l.map g)≤sumP k l
 | [],_=>Nat.le_refl _
 | a::l,h=>by
   rw[List.map_cons,sumP_cons,sumP_cons]
   have:=h a (by simp)
   have:=sumP_map f g k (l:=l) fun x hx=>h x (by simp[hx])
   omega
theorem partsOs_sum:∀ l:List Ob,partsOs l=sumP partsO l
 | []=>rfl
 | .mk ns fs ms r::l=>by rw[partsOs,sumP_cons,partsOs_sum l]; rfl
theorem partsTs_sum:∀ l:List Ty,partsTs l=sumP partsT l
 | []=>rfl
 | t::l=>by rw[partsTs,sumP_cons,partsTs_sum l]
theorem partsAs_sum:∀ l:List Arr,partsAs l=sumP (fun a=>partsT a.item) l
 | []=>rfl
 | .mk t lo hi::l=>by rw[partsAs,sumP_cons,partsAs_sum l]; rfl
theorem partsT_def (t:Ty):partsT t=1+(sumP (fun a=>partsT a.item) t.arrays+sumP partsO t.objects):=by
 obtain⟨a,b,c,d,ns,e,ts,az,os⟩:=t
 rw[partsT,partsAs_sum,partsOs_sum]; rfl
theorem sumP_ins (o:Ob):∀ l:List Ob,sumP partsO (insC cmpO o l)≤partsO o+sumP partsO l
 | []=>by simp[insC,sumP]
 | x::l=>by
   have:=sumP_ins o l
   simp only[insC]
   split<;>simp only[sumP_cons]<;>omega
theorem sumP_row (l:List Ob):sumP partsO (rowO l)≤sumP partsO l:=by
 rw[rowO_eq]
 unfold setC
 have:∀ (l acc:List Ob),sumP partsO (l.foldl (fun acc o=>insC cmpO o acc) acc)≤sumP partsO acc+sumP partsO l:=by
  intro l
  induction l with
  | nil=>intro acc; simp[sumP]
  | cons o l ih =>
    intro acc
    rw[List.foldl_cons,sumP_cons]
    have h1:=ih (insC cmpO o acc)
    have h2:=sumP_ins o acc
    omega
 have:=this l []
 simpa[sumP] using this
theorem outer_sublist:∀ (l kept:List Ob),(outerO kept l).Sublist (kept++l)
 | [],kept=>by rw[outerO_nil]; simp
 | o::l,kept=>by
   rw[outerO_cons]
   split
   ·exact (outer_sublist l kept).trans ((List.Sublist.refl kept).append (List.sublist_cons_self o l))
   ·have:=outer_sublist l (kept++[o])
    simpa using this
theorem spare_parts {o:Ob} (h1:o.names.length=o.fields.length) (h2:o.names.length=o.must.length):partsO (spareO o)≤partsO o:=by
 obtain⟨-,t2,-⟩:=trip_names h1 h2
 unfold partsO
 rw[spareO_rest,partsTs_sum,partsTs_sum]
 have:(spareO o).fields.Sublist o.fields:=by
  rw[← t2,spareO_eq]
  exact List.Sublist.map _ List.filter_sublist
 have:=sumP_sub partsT this
 omega
theorem parts_pos (t:Ty):1≤partsT t:=by rw[partsT_def]; omega
theorem parts_every:partsT tEvery=1:=by rw[partsT_def]; rfl
theorem parts_fin (t:Ty) (az:List Arr) (os:List Ob):partsT (finT t az os)≤1+(sumP (fun a=>partsT a.item) az+sumP partsO os):=by
 rw[finT_out]
 split
 ·rw[parts_every]; omega
 ·rw[partsT_def]; exact Nat.le_refl _
theorem parts_normal:∀ (h:Nat) (t:Ty),formedT t=true→limT t=true→partsT (normalT h t)≤partsT t:=by
 intro h
 induction h with
 | zero =>
   intro t ht hl
   rw[normalT_zero]
   split
   ·rw[parts_every]; exact parts_pos t
   ·refine Nat.le_trans (parts_fin _ _ _) ?_
    have:=parts_pos t
    simp[sumP]; omega
 | succ h ih =>
   intro t ht hl
   obtain⟨l1,l2,l3,l4⟩:=limT_iff.1 hl
   obtain⟨f1,f2,f3,f4,f5,f6,f7,f8⟩:=formedT_spec ht
   rw[normalT_succ]
   split
   ·rw[parts_every]; exact parts_pos t
   refine Nat.le_trans (parts_fin _ _ _) ?_
   rw[partsT_def t]
   have hA:sumP (fun a:Arr=>partsT a.item) (t.arrays.map fun a=>Arr.mk (normalT h a.item) a.min a.max)≤sumP (fun a:Arr=>partsT a.item) t.arrays :=
    sumP_map _ _ _ fun a ha=>ih _ (formedA_spec (f7 a ha)).2.2.2.1 (l3 a ha)
   have hO:sumP partsO (t.objects.map (objectO (normalT h)))≤sumP partsO t.objects:=sumP_map _ _ _ fun o ho=>by
    obtain⟨o1,o2,o3,o4,o5,o6⟩:=formedO_spec (f8 o ho)
    obtain⟨k1,k2,k3⟩:=l4 o ho
    rw[object_short k1]
    refine Nat.le_trans (spare_parts (by simpa using o1) o2) ?_
    show partsT (normalT h o.rest)+partsTs (o.fields.map (normalT h))≤partsT o.rest+partsTs o.fields
    have q1:=ih _ o4 k2
    have q2:partsTs (o.fields.map (normalT h))≤partsTs o.fields:=by
     rw[partsTs_sum,partsTs_sum]
     exact sumP_map _ _ _ fun f hf=>ih f (o5 f hf) (k3 f hf)
    omega
   rw[objects_short _ (by simpa using l2)]
   have h1:=sumP_sub partsO (outer_sublist (rowO (t.objects.map (objectO (normalT h)))) [])
   rw[List.nil_append] at h1
   have h2:=sumP_row (t.objects.map (objectO (normalT h)))
   omega
theorem formFrom_all {t:Ty} (h:∀ k,partsT (normalT k t)≤200):∀ n k,formFrom t n (k+1) (normalT k t)=normalT (k+n) t
 | 0,k=>rfl
 | n+1,k=>by
   rw[formFrom_step,if_pos (h _),formFrom_all h n (k+1)]
   congr 1; omega
theorem form_within {t:Ty} (ht:formedT t=true) (hl:limT t=true) (hp:partsT t≤200):formT t=normalT 8 t:=by
 have:=formFrom_all (t:=t) (fun k=>Nat.le_trans (parts_normal k t ht hl) hp) 8 0
 exact this
theorem form_in {t:Ty} (ht:formedT t=true) (hl:limT t=true) (hp:partsT t≤200) (hh:heightT t≤8) {v:Val} (hv:formedV v=true) (h:inT (formT t) v=true):inT t v=true:=by
 rw[form_within ht hl hp] at h
 exact normal_in 8 t ht hl hh v hv h
theorem trip_ofTrip (l:List (S × Ty × Bool)) (r:Ty):tripO (ofTrip l r)=l:=by
 unfold tripO ofTrip
 simp only[Ob.names_mk,Ob.fields_mk,Ob.must_mk]
 rw[zip_map2,zip_map2]
 exact (List.map_congr_left fun p _=>rfl).trans (List.map_id l)
theorem spare_idem (o:Ob):spareO (spareO o)=spareO o:=by
 rw[spareO_eq (spareO o)]
 have e:tripO (spareO o)=(tripO o).filter fun p=>p.2.2||!sameT p.2.1 o.rest:=by rw[spareO_eq,trip_ofTrip]
 rw[e,spareO_rest,List.filter_filter]
 simp only[Bool.and_self]
 rfl
theorem object_form {N:Ty→Ty} (hN:∀ t,formedT t=true→formedT (N t)=true) {o:Ob} (ho:formedO o=true) (hv:∀ t,formedT t=true→never (N t)=never t) :
 spareO (objectO N o)=objectO N o∧(objectO N o).names.length≤12∧(∃ t,formedT t=true∧(objectO N o).rest=N t)∧∀ f∈(objectO N o).fields,∃ t,formedT t=true∧f=N t:=by
 obtain⟨h1,h2,h3,h4,h5,h6⟩:=formedO_spec ho
 have fm:=formed_mapO hN hv ho
 unfold objectO trimO
 simp only
 generalize hm:Ob.mk o.names (o.fields.map N) o.must (N o.rest)=m at *
 have hfs:∀ f∈(spareO m).fields,∃ t,formedT t=true∧f=N t:=fun f hf=>by
  have:=spareO_fields m f hf
  rw[← hm] at this
  obtain⟨x,hx,rfl⟩:=List.mem_map.1 (show f∈o.fields.map N from this)
  exact⟨x,h5 x hx,rfl⟩
 split
 ·rename_i hl
  exact⟨spare_idem m,hl,⟨o.rest,h4,by rw[spareO_rest,← hm]; rfl⟩,hfs⟩
 ·refine⟨spare_idem _,?_,⟨_,?_,rfl⟩,fun f hf=>?_⟩
  ·refine Nat.le_trans (spare_len _) (Nat.le_trans (trip_len _) ?_)
   show ((spareO m).names.take 12).length≤12
   rw[List.length_take]; omega
  ·refine formed_sumL fun t ht=>?_
   have fs:=formedO_spec (formed_spareO fm)
   rcases List.mem_cons.1 ht with rfl|ht
   ·exact fs.2.2.2.1
   ·exact fs.2.2.2.2.1 t (List.mem_of_mem_drop ht)
  ·have:=spareO_fields _ f hf
   exact hfs f (List.mem_of_mem_take (show f∈(spareO m).fields.take 12 from this))
theorem map_id' {α:Type} {f:α→α} {l:List α} (h:∀ a∈l,f a=a):l.map f=l:=(List.map_congr_left h).trans (List.map_id l)
theorem object_idem {N N' : Ty→Ty} (hN:∀ t,formedT t=true→formedT (N t)=true) (hv:∀ t,formedT t=true→never (N t)=never t) (hI:∀ t,formedT t=true→N' (N t)=N t) {o:Ob} (ho:formedO o=true):objectO N' (objectO N o)=objectO N o:=by
 obtain⟨h1,h2,⟨t,ht,h3⟩,h4⟩:=object_form hN ho hv
 generalize objectO N o=p at *
 have e:Ob.mk p.names (p.fields.map N') p.must (N' p.rest)=p:=by
  rw[map_id' (f:=N') (l:=p.fields) fun f hf=>by obtain⟨x,hx,rfl⟩:=h4 f hf; exact hI x hx,h3,hI t ht,← h3,Ob.eta]
 unfold objectO
 rw[e]
 unfold trimO
 rw[h1]
 simp only
 rw[if_pos h2]
def apartO (l:List Ob):Prop:=l.Pairwise fun a b=>belowO a b=false∧belowO b a=false
theorem outer_apart:∀ (l kept:List Ob),apartO kept→(∀ a∈kept,∀ b∈l,belowO a b=false)→apartO (outerO kept l)
 | [],kept,h,_=>by rw[outerO_nil]; exact h
 | o::l,kept,h,k=>by
   rw[outerO_cons]
   split
   ·exact outer_apart l kept h fun a ha b hb=>k a ha b (by simp[hb])
   ·rename_i hc
    simp only[Bool.or_eq_true,not_or,Bool.not_eq_true,List.any_eq_false] at hc
    refine outer_apart l _ (List.pairwise_append.2 ⟨h,List.pairwise_singleton _ _,fun a ha b hb=>?_⟩) fun a ha b hb=>?_
    ·rw[List.mem_singleton.1 hb]
     exact⟨k a ha o (by simp),by simpa using hc.1 a ha⟩
    ·rcases List.mem_append.1 ha with ha|ha
     ·exact k a ha b (by simp[hb])
     ·rw[List.mem_singleton.1 ha]
      simpa using hc.2 b hb
theorem apart_outer:∀ (l kept:List Ob),apartO (kept++l)→outerO kept l=kept++l
 | [],kept,_=>by rw[outerO_nil]; simp
 | o::l,kept,h=>by
   rw[outerO_cons,if_neg]
   ·rw[apart_outer l (kept++[o]) (by simpa using h)]; simp
   ·have h':=List.pairwise_append.1 h
    have h2:=List.pairwise_cons.1 h'.2.1
    simp only[Bool.or_eq_true,not_or,Bool.not_eq_true,List.any_eq_false]
    exact⟨fun a ha=>by simpa using (h'.2.2 a ha o (by simp)).2,fun b hb=>by simpa using (h2.1 b hb).1⟩
theorem row_form (l:List Ob) (hl:∀ o∈l,formedO o=true):rowO (outerO [] (rowO l))=outerO [] (rowO l)∧outerO [] (outerO [] (rowO l))=outerO [] (rowO l):=by
 have hsub:=outer_sublist (rowO l) []
 rw[List.nil_append] at hsub
 have h1:=setC_spec (D:=maxOkO) cmpO_swap cmpO_Q (fun _ _=>cmpO_eq) l (fun x hx=>maxOk_O (hl x hx))
 rw[← rowO_eq] at h1
 have hss:SS cmpO (outerO [] (rowO l)):=SS_sublist hsub h1.1
 have hf:∀ x∈outerO [] (rowO l),maxOkO x:=fun x hx=>maxOk_O (hl x ((mem_rowO hl).1 (hsub.subset hx)))
 have h2:=setC_spec (D:=maxOkO) cmpO_swap cmpO_Q (fun _ _=>cmpO_eq) _ hf
 rw[← rowO_eq] at h2
 refine⟨SS_ext cmpO_swap h2.1 hss h2.2,?_⟩
 have:=apart_outer (outerO [] (rowO l)) [] (by simpa using outer_apart (rowO l) [] List.Pairwise.nil (by simp))
 simpa using this
theorem objects_idem {N N' : Ty→Ty} (hN:∀ t,formedT t=true→formedT (N t)=true) (hv:∀ t,formedT t=true→never (N t)=never t) {l:List Ob} (hl:∀ o∈l,formedO o=true):objectsO N' (objectsO N l)=objectsO N l:=by
 have h4:=(objectsO_len N l).1
 rw[objects_short N' h4]
 have hrow:∀ o∈outerO [] (rowO l),formedO o=true:=fun o ho=>by
  rcases outerO_sub _ _ o ho with k|k
  ·cases k
  ·exact hl o ((mem_rowO hl).1 k)
 have key:∃ m:List Ob,(∀ o∈m,formedO o=true)∧objectsO N l=outerO [] (rowO m):=by
  unfold objectsO
  simp only
  split
  ·exact⟨l,hl,rfl⟩
  ·rename_i hc
   refine⟨_,fun o ho=>?_,rfl⟩
   rcases List.mem_append.1 ho with k|k
   ·exact hrow o (List.mem_of_mem_take k)
   ·rw[List.mem_singleton.1 k]
    refine formed_objectO hN hv (formed_oneO (fun x hx=>hrow x (List.mem_of_mem_drop hx)) fun e=>?_)
    have:=congrArg List.length e
    rw[List.length_drop] at this
    simp at this; omega
 obtain⟨m,hm,e⟩:=key
 rw[e,(row_form m hm).1,(row_form m hm).2]
theorem fin_idem {t:Ty} {az:List Arr} {os:List Ob} (h:sameT (outT t az os) laidAll=false):finT (outT t az os) az os=outT t az os:=by
 have e:outT (outT t az os) az os=outT t az os:=by
  unfold outT
  simp only[Ty.null_mk,Ty.fls_mk,Ty.tru_mk,Ty.nums_mk,Ty.any_mk,Ty.texts_mk]
  by_cases k:16<t.texts.length
  ·simp[k]
  ·simp[k]
 rw[finT_out,e,h]; rfl
theorem normal_every (h:Nat):normalT h tEvery=tEvery:=by cases h<;>rfl
theorem objects_nil (N:Ty→Ty):objectsO N []=[]:=by rw[objects_short N (by simp)]; rfl
theorem normal_idem:∀ (h:Nat) (t:Ty),formedT t=true→∀ j,normalT (h+j) (normalT h t)=normalT h t:=by
 intro h
 induction h with
 | zero =>
   intro t ht j
   rw[normalT_zero]
   split
   ·exact normal_every _
   rw[finT_out]
   split
   ·exact normal_every _
   ·rename_i hs
    have hs:sameT (outT t [] []) laidAll=false:=by simpa using hs
    have hf:=fin_idem hs
    rw[Nat.zero_add]
    cases j with
    | zero =>
      rw[normalT_zero]
      exact hf
    | succ j =>
      rw[normalT_succ]
      show finT _ [] (objectsO _ [])=_
      rw[objects_nil]
      exact hf
 | succ h ih =>
   intro t ht j
   obtain⟨f1,f2,f3,f4,f5,f6,f7,f8⟩:=formedT_spec ht
   have hN:=formed_normalT h
   have hn:∀ t,formedT t=true→never (normalT h t)=never t:=fun t ht=>never_normalT h t ht
   rw[normalT_succ]
   split
   ·exact normal_every _
   rw[finT_out]
   split
   ·exact normal_every _
   rename_i hs
   have fl:∀ o∈t.objects.map (objectO (normalT h)),formedO o=true:=fun o ho=>by
    obtain⟨x,hx,rfl⟩:=List.mem_map.1 ho
    exact formed_objectO hN hn (f8 x hx)
   generalize hz:(t.arrays.map fun a=>Arr.mk (normalT h a.item) a.min a.max)=az at *
   generalize ho:objectsO (normalT h) (t.objects.map (objectO (normalT h)))=os at *
   rw[show h+1+j=(h+j)+1 by omega,normalT_succ]
   have e1:(outT t az os).arrays.map (fun a=>Arr.mk (normalT (h+j) a.item) a.min a.max)=az:=by
    show az.map _=az
    refine map_id' fun a ha=>?_
    rw[← hz] at ha
    obtain⟨x,hx,rfl⟩:=List.mem_map.1 ha
    simp only[Arr.item_mk,Arr.min_mk,Arr.max_mk]
    rw[ih _ (formedA_spec (f7 x hx)).2.2.2.1 j]
   have e2:(outT t az os).objects.map (objectO (normalT (h+j)))=os:=by
    show os.map _=os
    refine map_id' fun o hm=>?_
    rw[← ho] at hm
    rcases objectsO_mem hm with k|⟨m,hm1,hm2,rfl⟩
    ·obtain⟨x,hx,rfl⟩:=List.mem_map.1 k
     exact object_idem hN hn (fun t ht=>ih t ht j) (f8 x hx)
    ·exact object_idem hN hn (fun t ht=>ih t ht j) (formed_oneO (fun x hx=>fl x (hm1 x hx)) hm2)
   rw[e1,e2]
   have e3:objectsO (normalT (h+j)) os=os:=by rw[← ho]; exact objects_idem hN hn fl
   rw[e3]
   show (if (outT t az os).all then tEvery else finT (outT t az os) az os)=outT t az os
   rw[show (outT t az os).all=false from rfl,fin_idem (by simpa using hs)]
   rfl
theorem lim_normal:∀ (h:Nat) (t:Ty),formedT t=true→limT (normalT h t)=true:=by
 have hout:∀ (t:Ty) (az:List Arr) (os:List Ob),os.length≤4→(∀ a∈az,limT a.item=true)→(∀ o∈os,limO o)→limT (finT t az os)=true:=fun t az os h1 h2 h3=>by
  rw[finT_out]
  split
  ·exact lim_every
  ·rw[limT_iff]
   refine⟨?_,h1,h2,h3⟩
   show (if 16<t.texts.length then [] else t.texts).length≤16
   split
   ·simp
   ·omega
 intro h
 induction h with
 | zero =>
   intro t ht
   rw[normalT_zero]
   split
   ·exact lim_every
   ·exact hout _ _ _ (by simp) (by simp) (by simp)
 | succ h ih =>
   intro t ht
   obtain⟨f1,f2,f3,f4,f5,f6,f7,f8⟩:=formedT_spec ht
   have hN:=formed_normalT h
   have hn:∀ t,formedT t=true→never (normalT h t)=never t:=fun t ht=>never_normalT h t ht
   have fl:∀ o∈t.objects.map (objectO (normalT h)),formedO o=true:=fun o ho=>by
    obtain⟨x,hx,rfl⟩:=List.mem_map.1 ho
    exact formed_objectO hN hn (f8 x hx)
   rw[normalT_succ]
   split
   ·exact lim_every
   refine hout _ _ _ (objectsO_len _ _).1 (fun a ha=>?_) (fun o ho=>?_)
   ·obtain⟨x,hx,rfl⟩:=List.mem_map.1 ha
    exact ih _ (formedA_spec (f7 x hx)).2.2.2.1
   ·have key:∀ x,formedO x=true→limO (objectO (normalT h) x):=fun x hx=>by
       obtain⟨-,k2,⟨y,hy,k3⟩,k4⟩:=object_form hN hx hn
       exact⟨k2,by rw[k3]; exact ih y hy,fun f hf=>by obtain⟨z,hz,rfl⟩:=k4 f hf; exact ih z hz⟩
    rcases objectsO_mem ho with k|⟨m,hm1,hm2,rfl⟩
    ·obtain⟨x,hx,rfl⟩:=List.mem_map.1 k
     exact key x (f8 x hx)
    ·exact key _ (formed_oneO (fun x hx=>fl x (hm1 x hx)) hm2)
theorem formFrom_parts (t:Ty):∀ (n h:Nat) (best:Ty),partsT best≤200→partsT (formFrom t n h best)≤200
 | 0,_,_,h=>h
 | n+1,k,best,h=>by
   rw[formFrom_step]
   split
   ·rename_i hc; exact formFrom_parts t n (k+1) _ hc
   ·exact h
theorem form_parts (t:Ty):partsT (formT t)≤200:=by
 refine formFrom_parts t 8 1 _ ?_
 rw[parts_zero (height_normalT 0 t 0 (.inr (Nat.le_refl _)))]
 omega
theorem form_height (t:Ty):heightT (formT t)≤8:=by
 obtain⟨k,hk,e⟩:=formT_is t
 rw[e]; exact height_normalT k t 8 (.inr hk)
theorem form_formed {t:Ty} (ht:formedT t=true):formedT (formT t)=true:=by
 obtain⟨k,hk,e⟩:=formT_is t
 rw[e]; exact formed_normalT k t ht
theorem form_never {t:Ty} (ht:formedT t=true):never (formT t)=never t:=by
 obtain⟨k,hk,e⟩:=formT_is t
 rw[e]; exact never_normalT k t ht
theorem form_idem {t:Ty} (ht:formedT t=true):formT (formT t)=formT t:=by
 have hf:=form_formed ht
 have hp:=form_parts t
 obtain⟨k,hk,e⟩:=formT_is t
 have hl:limT (formT t)=true:=by rw[e]; exact lim_normal k t ht
 rw[form_within hf hl hp,e]
 have:=normal_idem k t ht (8-k)
 rwa [show k+(8-k)=8 by omega] at this
end Go.Tidy
set_option maxRecDepth 100000
namespace Go.Proofs.YtfilonnphgnplaaGreatDoor.Pv
open Go Go.Tidy
def wB (h:Nat) (t:Ty):Bool:=limT t&&decide (heightT t≤h)
def woB (h:Nat) (o:Ob):Bool:=decide (o.names.length≤12)&&wB h o.rest&&o.fields.all (wB h)
theorem wB_iff {h:Nat} {t:Ty}:wB h t=true↔t.texts.length≤16∧t.objects.length≤4∧(0<h∨t.arrays=[]∧t.objects=[])∧(∀ a∈t.arrays,wB (h-1) a.item=true)∧∀ o∈t.objects,woB (h-1) o=true:=by
 unfold wB
 rw[Bool.and_eq_true,limT_iff,decide_eq_true_eq]
 cases h with
 | zero =>
   rw[height_le_zero]
   constructor
   ·rintro⟨⟨h1,h2,h3,h4⟩,h5,h6⟩
    exact⟨h1,h2,.inr ⟨h5,h6⟩,by rw[h5]; simp,by rw[h6]; simp⟩
   ·rintro⟨h1,h2,h3|⟨h5,h6⟩,h4⟩
    ·omega
    ·exact⟨⟨h1,h2,by rw[h5]; simp,by rw[h6]; simp⟩,h5,h6⟩
 | succ h =>
   rw[height_le_succ]
   simp only[Nat.add_sub_cancel,Bool.and_eq_true,decide_eq_true_eq,woB,List.all_eq_true,limO,hle,wB]
   constructor
   ·rintro⟨⟨h1,h2,h3,h4⟩,h5,h6⟩
    exact⟨h1,h2,.inl (by omega),fun a ha=>⟨h3 a ha,h5 a ha⟩,fun o ho=>⟨⟨(h4 o ho).1,(h4 o ho).2.1,(h6 o ho).1⟩,fun f hf=>⟨(h4 o ho).2.2 f hf,(h6 o ho).2 f hf⟩⟩⟩
   ·rintro⟨h1,h2,-,h3,h4⟩
    exact⟨⟨h1,h2,fun a ha=>(h3 a ha).1,fun o ho=>⟨(h4 o ho).1.1,(h4 o ho).1.2.1,fun f hf=>((h4 o ho).2 f hf).1⟩⟩,fun a ha=>(h3 a ha).2,fun o ho=>⟨(h4 o ho).1.2.2,fun f hf=>((h4 o ho).2 f hf).2⟩⟩
set_option maxHeartbeats 8000000 in
theorem lim_step (t:Ty) (h:Nat) (hh:h≤1000) (hA:0<h→∀ a∈t.arrays,Ret prog M.F_ref11_within0 [.agg (cT a.item),.int .i64 (h-1:Nat)] (.bool (wB (h-1) a.item)))
 (hR:0<h→∀ o∈t.objects,Ret prog M.F_ref11_within0 [.agg (cT o.rest),.int .i64 (h-1:Nat)] (.bool (wB (h-1) o.rest)))
 (hF:0<h→∀ o∈t.objects,∀ f∈o.fields,Ret prog M.F_ref11_within0 [.agg (cT f),.int .i64 (h-1:Nat)] (.bool (wB (h-1) f))) :
 Ret prog M.F_ref11_within0 [.agg (cT t),.int .i64 h] (.bool (wB h t)):=by
 refine Ret.go hmix h_ref11_within0 (by simp) fun hb w0 F0 hG=>?_
 simp only[bndL,bndV,List.length_map,LIM,and_true] at hb
 have hW:=wB_iff (h:=h) (t:=t)
 generalize hB:wB h t=B at *
 by_cases g1:16<t.texts.length
 ·have g1' : (16:Int)<t.texts.length:=by omega
  have hBf:B=false:=by
   cases B
   ·rfl
   ·have:=(hW.1 rfl).1; omega
  simp[g1',hBf]
 have g1' : ¬ (16:Int)<t.texts.length:=by omega
 by_cases g2:4<t.objects.length
 ·have g2' : (4:Int)<t.objects.length:=by omega
  have hBf:B=false:=by
   cases B
   ·rfl
   ·have:=(hW.1 rfl).2.1; omega
  simp[g1',g2',hBf]
 have g2' : ¬ (4:Int)<t.objects.length:=by omega
 have hadd:=wrap64 (n:=(t.arrays.length:Int)+t.objects.length) (by omega) (by omega)
 by_cases g3:h=0
 ·have gh:(h:Int)<1:=by omega
  by_cases g4:0<t.arrays.length+t.objects.length
  ·have g4' : (0:Int)<(t.arrays.length:Int)+t.objects.length:=by omega
   have hBf:B=false:=by
    cases B
    ·rfl
    ·rcases (hW.1 rfl).2.2.1 with q|⟨q1,q2⟩
     ·omega
     ·rw[q1,q2] at g4; simp at g4
   simp[g1',g2',gh,hadd,g4',hBf]
  ·have e1:t.arrays=[]:=List.length_eq_zero_iff.1 (by omega)
   have e2:t.objects=[]:=List.length_eq_zero_iff.1 (by omega)
   have hBt:B=true:=hW.2 ⟨by omega,by omega,.inr ⟨e1,e2⟩,by rw[e1]; simp,by rw[e2]; simp⟩
   have w00:IntKind.i64.wrap 0=0:=wrap64 (by omega) (by omega)
   simp[g1',g2',gh,e1,e2,w00]
   intro w1
   refine XLoop.rnd hmix (.s .z) ?_
   simp[XRnd_s,e1,e2]
   refine XLoop.rnd hmix (.s .z) ?_
   simp[XRnd_s,e1,e2,hBt]
 have gh:¬ (h:Int)<1:=by omega
 have h0:0<h:=by omega
 have hA:=hA h0
 have hR:=hR h0
 have hF:=hF h0
 have hsub:IntKind.i64.wrap ((h:Int)-1)=((h-1:Nat):Int):=by rw[wrap64 (by omega) (by omega)]; omega
 generalize h-1=q at *
 have hBf1:∀ a∈t.arrays,wB q a.item=false→B=false:=fun a ha hf=>by
  cases B
  ·rfl
  ·have:=(hW.1 rfl).2.2.2.1 a ha
   rw[hf] at this; cases this
 have hBf2:∀ o∈t.objects,woB q o=false→B=false:=fun o ho hf=>by
  cases B
  ·rfl
  ·have:=(hW.1 rfl).2.2.2.2 o ho
   rw[hf] at this; cases this
 simp[g1',g2',gh]
 intro w1
 obtain⟨J,hJ⟩ : ∃ J:Nat→Unit→Prop,J=fun k _=>AllTo (fun a:Arr=>wB q a.item) t.arrays k:=⟨_,rfl⟩
 refine XLoop.cnt hmix t.arrays.length (fun k _=>⟨[(5,.int .i64 k),(4,.bool false),(2,.ptr (2,w1) 9 0 0),(1,.int .i64 h)],[((2,w1),some ⟨9,[cT t],false,true⟩)]⟩) J () (by rw[hJ]; exact .zero) (by simp) fun k _ hk hj=>?_
 have hw:=wrap64 (n:=(k:Int)+1) (by omega) (by omega)
 have hj' : AllTo (fun a:Arr=>wB q a.item) t.arrays k:=by rw[hJ] at hj; exact hj
 by_cases q1:k<t.arrays.length
 ·have c1:=hA _ (List.getElem_mem q1)
  cases e1:wB q t.arrays[k].item
  ·have hBf:=hBf1 _ (List.getElem_mem q1) e1
   rw[e1] at c1
   simp[q1,hsub]
   refine XCall.ret (by first|exact c1|(simpa using c1)) ?_
   simp[hBf]
  ·have hJn:J (k+1) ():=by rw[hJ]; exact hj'.step q1 e1
   rw[e1] at c1
   simp[q1,hsub]
   refine XCall.ret (by first|exact c1|(simpa using c1)) ?_
   simp[q1,hw]
   exact⟨(),hJn⟩
 have hArr:∀ a∈t.arrays,wB q a.item=true:=by
  have:=hj'.all q1
  rwa [List.all_eq_true] at this
 simp[q1]
 obtain⟨J2,hJ2⟩ : ∃ J:Nat→Unit→Prop,J=fun k _=>AllTo (woB q) t.objects k:=⟨_,rfl⟩
 refine XLoop.cnt hmix t.objects.length (fun k _=>⟨[(6,.int .i64 k),(4,.bool false),(2,.ptr (2,w1) 9 0 0),(1,.int .i64 h)],[((2,w1),some ⟨9,[cT t],false,true⟩)]⟩) J2 () (by rw[hJ2]; exact .zero) (by simp) fun i _ hi hj2=>?_
 have hwi:=wrap64 (n:=(i:Int)+1) (by omega) (by omega)
 have hj2' : AllTo (woB q) t.objects i:=by rw[hJ2] at hj2; exact hj2
 by_cases p1:i<t.objects.length
 ·have cR:=hR _ (List.getElem_mem p1)
  have cF:=hF _ (List.getElem_mem p1)
  have hBo:=hBf2 _ (List.getElem_mem p1)
  have hJn:woB q t.objects[i]=true→J2 (i+1) ():=fun h=>by rw[hJ2]; exact hj2'.step p1 h
  have hbo:t.objects[i].fields.length≤140737488355328:=by
   have:=bndR_map hb.1.2.2.2.2.2.2.2.2.2 _ (List.getElem_mem p1)
   simp[bndL,bndV,LIM] at this
   omega
  have hWo:woB q t.objects[i]=(decide (t.objects[i].names.length≤12)&&wB q t.objects[i].rest&&t.objects[i].fields.all (wB q)):=rfl
  generalize ho:t.objects[i]=o at *
  by_cases p2:12<o.names.length
  ·have p2' : (12:Int)<o.names.length:=by omega
   have hBf:=hBo (by rw[hWo]; simp[show ¬ o.names.length≤12 by omega])
   simp[p1,ho,p2',hBf]
  have p2' : ¬ (12:Int)<o.names.length:=by omega
  cases e1:wB q o.rest
  ·have hBf:=hBo (by rw[hWo,e1]; simp)
   rw[e1] at cR
   simp[p1,ho,p2',hsub]
   refine XCall.ret (by first|exact cR|(simpa using cR)) ?_
   simp[hBf]
  rw[e1] at cR
  simp[p1,ho,p2',hsub]
  refine XCall.ret (by first|exact cR|(simpa using cR)) ?_
  simp
  obtain⟨J3,hJ3⟩ : ∃ J:Nat→Unit→Prop,J=fun k _=>AllTo (wB q) o.fields k:=⟨_,rfl⟩
  refine XLoop.cnt hmix o.fields.length (fun k _=>⟨[(7,.int .i64 k),(6,.int .i64 i),(4,.bool false),(2,.ptr (2,w1) 9 0 0),(1,.int .i64 h)],[((2,w1),some ⟨9,[cT t],false,true⟩)]⟩) J3 () (by rw[hJ3]; exact .zero) (by simp) fun j _ hj hj3=>?_
  have hwj:=wrap64 (n:=(j:Int)+1) (by omega) (by omega)
  have hj3' : AllTo (wB q) o.fields j:=by rw[hJ3] at hj3; exact hj3
  by_cases r1:j<o.fields.length
  ·have c1:=cF _ (List.getElem_mem r1)
   cases e2:wB q o.fields[j]
   ·have hBf:=hBo (by
       rw[hWo,Bool.and_eq_false_iff]
       exact .inr (List.all_eq_false.2 ⟨_,List.getElem_mem r1,by rw[e2]; simp⟩))
    rw[e2] at c1
    simp[p1,ho,r1,hsub]
    refine XCall.ret (by first|exact c1|(simpa using c1)) ?_
    simp[hBf]
   ·have hJn3:J3 (j+1) ():=by rw[hJ3]; exact hj3'.step r1 e2
    rw[e2] at c1
    simp[p1,ho,r1,hsub]
    refine XCall.ret (by first|exact c1|(simpa using c1)) ?_
    simp[r1,hwj]
    exact⟨(),hJn3⟩
  ·have:=hJn (by rw[hWo,e1,hj3'.all r1]; simp; omega)
   simp[p1,ho,r1,hwi]
   exact⟨(),this⟩
 ·have hBt:B=true:=hW.2 ⟨by omega,by omega,.inl h0,hArr,by
     have:=hj2'.all p1
     rwa [List.all_eq_true] at this⟩
  simp[p1,hBt]
theorem c_ref11_within0 (t:Ty):∀ h:Nat,h≤1000→Ret prog M.F_ref11_within0 [.agg (cT t),.int .i64 h] (.bool (wB h t)):=by
 induction hn:SizeOf.sizeOf t using Nat.strongRecOn generalizing t with
 | _ n ih =>
   subst hn
   exact fun h hh=>lim_step t h hh (fun _ a ha=>ih _ (sz_item ha) a.item rfl _ (by omega)) (fun _ o ho=>ih _ (sz_rest ho) o.rest rfl _ (by omega)) fun _ o ho f hf=>ih _ (sz_field ho hf) f rfl _ (by omega)
theorem c_ref11_Within (t:Ty):Ret prog M.F_ref11_Within [.agg (cT t),.int .i64 8] (.bool (decide (partsT t≤200)&&wB 8 t)):=by
 refine Ret.go hmix h_ref11_Within (by simp) fun hb w0 F0 hG=>?_
 have c1:=c_ref11_Parts t 200 (by omega)
 have c2:=c_ref11_within0 t 8 (by omega)
 simp
 intros
 refine XCall.ret (by first|exact c1|(simp; exact c1)) ?_
 by_cases g:partsT t≤200
 ·have g' : ((min (partsT t) 201:Nat):Int)≤200:=by omega
  simp[g,g']
  refine XCall.ret (by first|exact c2|(simpa using c2)) ?_
  simp
 ·have g' : ¬ ((min (partsT t) 201:Nat):Int)≤200:=by omega
  simp[g,g']
end Go.Proofs.YtfilonnphgnplaaGreatDoor.Pv
set_option maxRecDepth 100000
namespace Go.Proofs.YtfilonnphgnplaaGreatDoor.Pv
open Go Go.Tidy
theorem sameT_self (t:Ty):sameT t t=true:=by
 unfold sameT
 rw[cmpT_refl]; rfl
set_option maxHeartbeats 8000000 in
theorem c_law11_TidyHas (hL:LibOk) (t:Ty) (v:Val):Ret prog M.F_law11_TidyHas [.agg (cT t),.agg (cV v)] (.bool true):=by
 refine Ret.go hmix h_law11_TidyHas (by simp) fun hb w0 F0 hG=>?_
 have c0:=c_law11_fixed hL
 have c1:=c_law11_fits t xNo
 obtain⟨fv,c2⟩:=c_kit_Fit1 v
 have c3:=c_ref09_Formed t
 have c4:=c_ref03_Formed v
 simp
 intros
 refine XCall.ret (by first|exact c0|(simp; exact c0)) ?_
 simp
 refine XCall.ret (by first|exact c1|(simp; exact c1)) ?_
 cases g:fitsB t xNo
 ·simp[g]
 simp[g]
 intros
 refine XCall.ret (by first|exact c2|(simpa using c2)) ?_
 cases g1:fv
 ·simp
 simp
 refine XCall.ret (by first|exact c3|(simp; exact c3)) ?_
 cases g2:formedT t
 ·simp[g2]
 simp[g2]
 refine XCall.ret (by first|exact c4|(simpa using c4)) ?_
 cases g3:formedV v
 ·simp[g3]
 have hf:fitB t=true:=by
  unfold fitsB at g
  simp only[Bool.and_eq_true] at g
  exact g.1.1.1
 obtain⟨f1,f2,f3⟩:=fit_all hf
 have hh:=ht_sz t
 have k1:=p_Tidy hL (nmsP t) (by omega) t 20001 (by omega) (bd_mono (by omega) t f3) (by omega)
 have k2:=p_Tidy hL (nmsP t) (by omega) (formT t) 20001 (by omega) (bd_mono (by omega) _ (bd_formT f3)) (by have:=form_height t; omega)
 have k3:=p_Is hL (nmsP t) (by omega) (formT t) 20001 (by omega) (bd_mono (by omega) _ (bd_formT f3)) (by have:=form_height t; omega)
 have fn:=form_formed g2
 rw[g2] at k1
 rw[fn,form_idem g2] at k2 k3
 rw[sameT_self] at k3
 have hp:=form_parts t
 have hht:=form_height t
 have k4:=c_ref09_Formed (formT t)
 have k5:=c_ref09_Height (formT t) (by omega)
 have k6:=c_ref11_Parts (formT t) 200 (by omega)
 have k7:=c_ref09_Cmp (formT t) (formT t) fn fn
 rw[cmpT_refl] at k7
 have k8:=c_ref09_Never (formT t)
 have k9:=c_ref09_Never t
 rw[form_never g2] at k8
 rw[fn] at k4
 have i1:=c_ref09_In t v g2 g3
 have i2:=c_ref09_In (formT t) v fn g3
 have m1:inT t v=true→inT (formT t) v=true:=in_form g2 g3
 have m2:(decide (partsT t≤200)&&wB 8 t)=true→inT (formT t) v=true→inT t v=true:=fun h=>by
  unfold wB at h
  simp only[Bool.and_eq_true,decide_eq_true_eq] at h
  exact form_in g2 h.2.1 h.1 h.2.2 g3
 have cW:=c_ref11_Within t
 generalize formT t=n at *
 have h8:¬ (8:Int)<(heightT n:Int):=by omega
 have h200:¬ (200:Int)<((min (partsT n) 201:Nat):Int):=by omega
 simp[g3]
 refine XCall.ret (by first|exact k1|(simpa using k1)) ?_
 simp
 intros
 refine XCall.ret (by first|exact k4|(simpa using k4)) ?_
 simp
 refine XCall.ret (by first|exact k3|(simpa using k3)) ?_
 simp
 refine XCall.ret (by first|exact k5|(simpa using k5)) ?_
 simp[h8]
 refine XCall.ret (by first|exact k6|(simpa using k6)) ?_
 simp[h200]
 refine XCall.ret (by first|exact k2|(simpa using k2)) ?_
 simp[h8]
 intros
 refine XDCall.ret (by first|exact k7|(simpa using k7)) ?_
 simp[oInt]
 refine XDCall.ret (by first|exact k8|(simpa using k8)) ?_
 simp
 refine XDCall.ret (by first|exact k9|(simpa using k9)) ?_
 simp
 refine XCall.ret (by first|exact i1|(simpa using i1)) ?_
 simp
 refine XCall.ret (by first|exact i2|(simpa using i2)) ?_
 generalize inT t v=a at *
 generalize inT n v=b at *
 cases ha:a<;>cases hb' : b
 ·simp[ha,hb']
 ·simp[ha,hb']
  refine XCall.ret (by first|exact cW|(simpa using cW)) ?_
  generalize (decide (partsT t≤200)&&wB 8 t)=q at *
  cases hq:q
  ·simp
  ·rw[ha,hb'] at m2
   cases m2 hq rfl
 ·rw[ha,hb'] at m1
  cases m1 rfl
 ·simp[ha,hb']
end Go.Proofs.YtfilonnphgnplaaGreatDoor.Pv
namespace Go.Proofs.YtfilonnphgnplaaGreatDoor.Pv
open Go Go.Tidy
theorem tidyHas_ret (x0:Go.Tidy.Ty) (x1:Go.Tidy.Val):Ret prog M.F_law11_TidyHas [.agg (cT x0),.agg (cV x1)] (.bool true):=c_law11_TidyHas libOk x0 x1
end Go.Proofs.YtfilonnphgnplaaGreatDoor.Pv
namespace Go.Tidy
open Go
theorem sumT_never_r {x:Ty} (h:formedT x=true):sumT x tNever=x:=by
 rw[sumT_def]
 simp only[tNever,Ty.all_mk,Ty.null_mk,Ty.fls_mk,Ty.tru_mk,Ty.nums_mk,Ty.any_mk,Ty.texts_mk,Ty.arrays_mk,Ty.objects_mk,Bool.or_false,sumN_nil_r,mergeS_nil_r,sumAs_nil_r,List.append_nil]
 cases ha:x.all
 ·have:(if x.any=true then [] else x.texts)=x.texts:=by
     split
     ·rename_i k; exact ((formedT_spec h).2.2.1 k).symm
     ·rfl
  rw[this]
  have:=Ty.eta x
  rw[ha] at this
  simpa using this
 ·rw[if_pos rfl,all_every h ha]
def baseT (x y:Ty):Prop:=x.all=y.all∧x.null=y.null∧x.fls=y.fls∧x.tru=y.tru∧x.nums=y.nums∧x.any=y.any∧x.texts=y.texts∧∀ o,o∈x.objects↔o∈y.objects
def permT:Nat→Ty→Ty→Prop
 | 0,x,y=>baseT x y∧x.arrays=[]∧y.arrays=[]
 | n+1,x,y=>baseT x y∧(x.arrays=[]∧y.arrays=[]∨∃ a b,x.arrays=[a]∧y.arrays=[b]∧a.min=b.min∧a.max=b.max∧permT n a.item b.item)
theorem base_refl (x:Ty):baseT x x:=⟨rfl,rfl,rfl,rfl,rfl,rfl,rfl,fun _=>Iff.rfl⟩
theorem arrs_one {x:Ty} (h:formedT x=true):x.arrays=[]∨∃ a,x.arrays=[a]:=by
 have:=(formedT_spec h).2.2.2.2.2.1
 match hx:x.arrays with
 | []=>exact .inl rfl
 | [a]=>exact .inr ⟨a,rfl⟩
 | _::_::_=>rw[hx] at this; simp at this
theorem perm_refl:∀ (n:Nat) (x:Ty),heightT x≤n→formedT x=true→permT n x x
 | 0,x,hh,_=>⟨base_refl x,(height_le_zero.1 hh).1,(height_le_zero.1 hh).1⟩
 | n+1,x,hh,hx=>by
   refine⟨base_refl x,?_⟩
   rcases arrs_one hx with e|⟨a,e⟩
   ·exact .inl ⟨e,e⟩
   ·have ha:a∈x.arrays:=by rw[e]; simp
    exact .inr ⟨a,a,e,e,rfl,rfl,perm_refl n _ ((height_le_succ.1 hh).1 a ha) (formedA_spec ((formedT_spec hx).2.2.2.2.2.2.1 a ha)).2.2.2.1⟩
theorem mergeS_comm {a b:List S} (ha:SSs a) (hb:SSs b):mergeS a b=mergeS b a :=
 SS_ext sCmp_swap (SS_mergeS a b ha hb) (SS_mergeS b a hb ha) fun y=>by rw[mem_mergeS,mem_mergeS]; exact or_comm
theorem sumN_comm {a b:List Span} (ha:a.length≤1) (hb:b.length≤1):sumN a b=sumN b a:=by
 match a,b with
 | [],[]=>rfl
 | [],[_]=>rfl
 | [_],[]=>rfl
 | [x],[y]=>simp only[sumN]; rw[lowS_comm,highS_comm]
 | _::_::_,_=>simp at ha
 | _,_::_::_=>simp at hb
theorem base_sum {a b:Ty} (ha:formedT a=true) (hb:formedT b=true):baseT (sumT a b) (sumT b a):=by
 obtain⟨a1,a2,a3,a4,a5,a6,a7,a8⟩:=formedT_spec ha
 obtain⟨b1,b2,b3,b4,b5,b6,b7,b8⟩:=formedT_spec hb
 rw[sumT_def,sumT_def,Bool.or_comm b.all a.all]
 split
 ·exact base_refl _
 ·refine⟨rfl,Bool.or_comm _ _,Bool.or_comm _ _,Bool.or_comm _ _,sumN_comm a4 b4,Bool.or_comm _ _,?_,fun o=>?_⟩
  ·simp only[Ty.texts_mk]
   rw[Bool.or_comm b.any a.any,mergeS_comm (riseB_SS a2).1 (riseB_SS b2).1]
  ·simp only[Ty.objects_mk,List.mem_append]; exact or_comm
theorem sum_all {a b:Ty} (h:(a.all||b.all)=true):sumT a b=tEvery:=by rw[sumT_def,if_pos h]
theorem sum_arrays {a b:Ty} (h:¬ (a.all||b.all)=true):(sumT a b).arrays=sumAs a.arrays b.arrays:=by rw[sumT_def,if_neg h]; rfl
theorem perm_sum:∀ (n:Nat) (a b:Ty),heightT a≤n→heightT b≤n→formedT a=true→formedT b=true→permT n (sumT a b) (sumT b a):=by
 intro n
 induction n with
 | zero =>
   intro a b h1 h2 ha hb
   refine⟨base_sum ha hb,?_,?_⟩
   ·exact (height_le_zero.1 (height_sumT 0 a b h1 h2)).1
   ·exact (height_le_zero.1 (height_sumT 0 b a h2 h1)).1
 | succ n ih =>
   intro a b h1 h2 ha hb
   refine⟨base_sum ha hb,?_⟩
   by_cases hall:(a.all||b.all)=true
   ·rw[sum_all hall,sum_all (by rw[Bool.or_comm]; exact hall)]; exact .inl ⟨rfl,rfl⟩
   rw[sum_arrays hall,sum_arrays (by rw[Bool.or_comm]; exact hall)]
   have s1:=(height_le_succ.1 h1).1
   have s2:=(height_le_succ.1 h2).1
   have fa:=(formedT_spec ha).2.2.2.2.2.2.1
   have fb:=(formedT_spec hb).2.2.2.2.2.2.1
   rcases arrs_one ha with e1|⟨x,e1⟩
   ·rw[e1,sumAs_nil_l,sumAs_nil_r]
    rcases arrs_one hb with e2|⟨y,e2⟩
    ·exact .inl ⟨e2,e2⟩
    ·have hy:y∈b.arrays:=by rw[e2]; simp
     exact .inr ⟨y,y,e2,e2,rfl,rfl,perm_refl n _ (s2 y hy) (formedA_spec (fb y hy)).2.2.2.1⟩
   ·have hx:x∈a.arrays:=by rw[e1]; simp
    rcases arrs_one hb with e2|⟨y,e2⟩
    ·rw[e1,e2,sumAs_nil_l,sumAs_nil_r]
     exact .inr ⟨x,x,rfl,rfl,rfl,rfl,perm_refl n _ (s1 x hx) (formedA_spec (fa x hx)).2.2.2.1⟩
    ·have hy:y∈b.arrays:=by rw[e2]; simp
     rw[e1,e2]
     refine .inr ⟨sumA x y,sumA y x,by simp only[sumAs],by simp only[sumAs],?_,?_,?_⟩
     ·rw[sumA_def,sumA_def]
      simp only[Arr.min_mk]
      split<;>split<;>omega
     ·rw[sumA_def,sumA_def]
      simp only[Arr.max_mk]
      by_cases k:x.max<0∨y.max<0
      ·rw[if_pos k,if_pos (Or.comm.1 k)]
      ·rw[if_neg k,if_neg fun q=>k (Or.comm.1 q)]
       split<;>split<;>omega
     ·rw[sumA_def,sumA_def]
      exact ih _ _ (s1 x hx) (s2 y hy) (formedA_spec (fa x hx)).2.2.2.1 (formedA_spec (fb y hy)).2.2.2.1
theorem row_same {l m:List Ob} (hl:∀ o∈l,formedO o=true) (hm:∀ o∈m,formedO o=true) (h:∀ o,o∈l↔o∈m):rowO l=rowO m:=by
 have h1:=setC_spec (D:=maxOkO) cmpO_swap cmpO_Q (fun _ _=>cmpO_eq) l (fun x hx=>maxOk_O (hl x hx))
 have h2:=setC_spec (D:=maxOkO) cmpO_swap cmpO_Q (fun _ _=>cmpO_eq) m (fun x hx=>maxOk_O (hm x hx))
 rw[rowO_eq,rowO_eq]
 exact SS_ext cmpO_swap h1.1 h2.1 fun x=>by rw[h1.2,h2.2,h]
theorem out_base {x y:Ty} (h:baseT x y) (az:List Arr) (os:List Ob):finT x az os=finT y az os:=by
 obtain⟨h1,h2,h3,h4,h5,h6,h7,-⟩:=h
 rw[finT_out,finT_out]
 have:outT x az os=outT y az os:=by unfold outT; rw[h2,h3,h4,h5,h6,h7]
 rw[this]
theorem empty_same {α:Type} {l m:List α} (h:∀ o,o∈l↔o∈m):l.isEmpty=m.isEmpty:=by
 cases l with
 | nil =>
   cases m with
   | nil=>rfl
   | cons b m=>have:=(h b).2 (by simp); cases this
 | cons a l =>
   cases m with
   | nil=>have:=(h a).1 (by simp); cases this
   | cons b m=>rfl
theorem normal_perm:∀ (n:Nat) (x y:Ty),permT n x y→formedT x=true→formedT y=true→∀ h,normalT h x=normalT h y:=by
 intro n
 induction n with
 | zero =>
   rintro x y ⟨hb,e1,e2⟩ hx hy h
   cases h with
   | zero=>rw[normalT_zero,normalT_zero,e1,e2,hb.1,empty_same hb.2.2.2.2.2.2.2,out_base hb]
   | succ h =>
     rw[normalT_succ,normalT_succ,e1,e2,hb.1,out_base hb]
     congr 2
     have hN:=formed_normalT h
     have hn:∀ t,formedT t=true→never (normalT h t)=never t:=fun t ht=>never_normalT h t ht
     unfold objectsO
     rw[row_same (l:=x.objects.map (objectO (normalT h))) (m:=y.objects.map (objectO (normalT h)))]
     ·intro o ho
      obtain⟨z,hz,rfl⟩:=List.mem_map.1 ho
      exact formed_objectO hN hn ((formedT_spec hx).2.2.2.2.2.2.2 z hz)
     ·intro o ho
      obtain⟨z,hz,rfl⟩:=List.mem_map.1 ho
      exact formed_objectO hN hn ((formedT_spec hy).2.2.2.2.2.2.2 z hz)
     ·intro o
      simp only[List.mem_map,hb.2.2.2.2.2.2.2]
 | succ n ih =>
   rintro x y ⟨hb,ha⟩ hx hy h
   have key:∀ h,x.arrays.map (fun a=>Arr.mk (normalT h a.item) a.min a.max)=y.arrays.map (fun a=>Arr.mk (normalT h a.item) a.min a.max):=fun h=>by
    rcases ha with ⟨e1,e2⟩|⟨a,b,e1,e2,e3,e4,e5⟩
    ·rw[e1,e2]
    ·have fa:=(formedA_spec ((formedT_spec hx).2.2.2.2.2.2.1 a (by rw[e1]; simp))).2.2.2.1
     have fb:=(formedA_spec ((formedT_spec hy).2.2.2.2.2.2.1 b (by rw[e2]; simp))).2.2.2.1
     rw[e1,e2,List.map_cons,List.map_cons,ih _ _ e5 fa fb h,e3,e4]
   cases h with
   | zero =>
     have:x.arrays.isEmpty=y.arrays.isEmpty:=by
      rcases ha with ⟨e1,e2⟩|⟨a,b,e1,e2,_⟩<;>rw[e1,e2]<;>rfl
     rw[normalT_zero,normalT_zero,this,hb.1,empty_same hb.2.2.2.2.2.2.2,out_base hb]
   | succ h =>
     rw[normalT_succ,normalT_succ,key h,hb.1,out_base hb]
     congr 2
     have hN:=formed_normalT h
     have hn:∀ t,formedT t=true→never (normalT h t)=never t:=fun t ht=>never_normalT h t ht
     unfold objectsO
     rw[row_same (l:=x.objects.map (objectO (normalT h))) (m:=y.objects.map (objectO (normalT h)))]
     ·intro o ho
      obtain⟨z,hz,rfl⟩:=List.mem_map.1 ho
      exact formed_objectO hN hn ((formedT_spec hx).2.2.2.2.2.2.2 z hz)
     ·intro o ho
      obtain⟨z,hz,rfl⟩:=List.mem_map.1 ho
      exact formed_objectO hN hn ((formedT_spec hy).2.2.2.2.2.2.2 z hz)
     ·intro o
      simp only[List.mem_map,hb.2.2.2.2.2.2.2]
theorem formFrom_same {x y:Ty} (h:∀ k,normalT k x=normalT k y):∀ n k best,formFrom x n k best=formFrom y n k best
 | 0,_,_=>rfl
 | n+1,k,best=>by rw[formFrom_step,formFrom_step,h,formFrom_same h n]
theorem form_comm {a b:Ty} (ha:formedT a=true) (hb:formedT b=true):formT (sumT a b)=formT (sumT b a):=by
 have h:=normal_perm _ _ _ (perm_sum (max (heightT a) (heightT b)) a b (Nat.le_max_left _ _) (Nat.le_max_right _ _) ha hb) (formed_sumT a b ha hb) (formed_sumT b a hb ha)
 unfold formT
 rw[formFrom_same h,h]
end Go.Tidy
set_option maxRecDepth 100000
namespace Go.Proofs.YtfilonnphgnplaaGreatDoor.Pv
open Go Go.Tidy
theorem fit_both {a b:Ty} (ha:fitB a=true) (hb:fitB b=true):(nmsT a++nmsT b).length≤40000∧bdT (nmsT a++nmsT b) 20000 a∧bdT (nmsT a++nmsT b) 20000 b:=by
 obtain⟨h1,h2,_⟩:=fit_bdT (of_decide_eq_true ha)
 obtain⟨k1,k2,_⟩:=fit_bdT (of_decide_eq_true hb)
 exact⟨by simp; omega,bd_sz a (fun n hn=>List.mem_append_left _ hn) h2,bd_sz b (fun n hn=>List.mem_append_right _ hn) k2⟩
set_option maxHeartbeats 8000000 in
theorem c_law11_TidySums (hL:LibOk) (a b:Ty) (v:Val):Ret prog M.F_law11_TidySums [.agg (cT a),.agg (cT b),.agg (cV v)] (.bool true):=by
 refine Ret.go hmix h_law11_TidySums (by simp) fun hb w0 F0 hG=>?_
 have c0:=c_law11_fixed hL
 have c1:=c_law11_fits a b
 obtain⟨fv,c2⟩:=c_kit_Fit1 v
 have c3:=c_ref09_Formed a
 have c3b:=c_ref09_Formed b
 have c4:=c_ref03_Formed v
 simp
 intros
 refine XCall.ret (by first|exact c0|(simp; exact c0)) ?_
 simp
 refine XCall.ret (by first|exact c1|(simp; exact c1)) ?_
 cases g:fitsB a b
 ·simp[g]
 simp[g]
 intros
 refine XCall.ret (by first|exact c2|(simpa using c2)) ?_
 cases g1:fv
 ·simp
 simp
 refine XCall.ret (by first|exact c3|(simp; exact c3)) ?_
 cases g2:formedT a
 ·simp[g2]
 simp[g2]
 refine XCall.ret (by first|exact c3b|(simp; exact c3b)) ?_
 cases g2b:formedT b
 ·simp[g2b]
 simp[g2b]
 refine XCall.ret (by first|exact c4|(simpa using c4)) ?_
 cases g3:formedV v
 ·simp[g3]
 have hfa:fitB a=true:=by
  unfold fitsB at g
  simp only[Bool.and_eq_true] at g
  exact g.1.1.1
 have hfb:fitB b=true:=by
  unfold fitsB at g
  simp only[Bool.and_eq_true] at g
  exact g.1.1.2
 obtain⟨f1,f2,f3⟩:=fit_both hfa hfb
 have hha:heightT a≤20000:=by have:=ht_sz a; have:=(fit_bdT (of_decide_eq_true hfa)).2.1; omega
 have hhb:heightT b≤20000:=by have:=ht_sz b; have:=(fit_bdT (of_decide_eq_true hfb)).2.1; omega
 generalize hNM:nmsT a++nmsT b=NM at *
 have fs:=formed_sumT a b g2 g2b
 have fs':=formed_sumT b a g2b g2
 have k1:=p_Sum a b NM 20000 (by omega) (by omega) f2 f3
 have k2:=p_Sum b a NM 20000 (by omega) (by omega) f3 f2
 have k3:=p_Sum a tNever NM 20000 (by omega) (by omega) f2 bd_never
 rw[g2,g2b] at k1
 rw[g2b,g2] at k2
 rw[g2,never_formed,sumT_never_r g2] at k3
 have t1:=p_Tidy hL NM f1 (sumT a b) 40001 (by omega) (bd_mono (by omega) _ (bd_sum f2 f3)) (by have:=height_sumT 20000 a b hha hhb; omega)
 have t2:=p_Tidy hL NM f1 (sumT b a) 40001 (by omega) (bd_mono (by omega) _ (bd_sum f3 f2)) (by have:=height_sumT 20000 b a hhb hha; omega)
 rw[fs] at t1
 rw[fs',← form_comm g2 g2b] at t2
 have k4:=c_ref09_Formed (sumT a b)
 rw[fs] at k4
 have k5:=c_ref09_Cmp a a g2 g2
 rw[cmpT_refl] at k5
 have i1:=c_ref09_In a v g2 g3
 have i2:=c_ref09_In b v g2b g3
 have i3:=c_ref09_In (sumT a b) v fs g3
 have i4:=c_ref09_In (formT (sumT a b)) v (form_formed fs) g3
 have m1:inT a v=true∨inT b v=true→inT (sumT a b) v=true:=in_sumT
 have m2:v.kind≠3→v.kind≠5→inT (sumT a b) v=true→inT a v=true∨inT b v=true:=sum_in
 generalize sumT a b=s at *
 generalize sumT b a=s' at *
 generalize formT s=n at *
 simp[g3]
 refine XCall.ret (by first|exact k1|(simpa using k1)) ?_
 simp
 intros
 refine XCall.ret (by first|exact k4|(simpa using k4)) ?_
 simp
 refine XCall.ret (by first|exact i1|(simpa using i1)) ?_
 generalize inT a v=p at *
 generalize inT b v=q at *
 generalize inT s v=r at *
 generalize inT n v=z at *
 have key:(p=true∧r=true)∨(p=false∧q=true∧r=true)∨(p=false∧q=false∧r=false)∨(p=false∧q=false∧r=true∧(v.kind=3∨v.kind=5)):=by
  cases p
  ·cases q
   ·cases r
    ·exact .inr (.inr (.inl ⟨rfl,rfl,rfl⟩))
    ·refine .inr (.inr (.inr ⟨rfl,rfl,rfl,?_⟩))
     by_cases k3:v.kind=3
     ·exact .inl k3
     ·by_cases k5:v.kind=5
      ·exact .inr k5
      ·rcases m2 k3 k5 rfl with h|h<;>cases h
   ·cases r
    ·cases m1 (.inr rfl)
    ·exact .inr (.inl ⟨rfl,rfl,rfl⟩)
  ·cases r
   ·cases m1 (.inl rfl)
   ·exact .inl ⟨rfl,rfl⟩
 clear m1 m2
 have hkk:v.kind=3∨v.kind=5∨(¬ v.kind=3∧¬ v.kind=5):=by omega
 rcases key with ⟨e1,e3⟩|⟨e1,e2,e3⟩|⟨e1,e2,e3⟩|⟨e1,e2,e3,hk⟩
 ·subst e1 e3
  simp
  refine XCall.ret (by first|exact i3|(simpa using i3)) ?_
  rcases hkk with k|k|k
  all_goals
    simp[k]
    refine XCall.ret (by first|exact k2|(simpa using k2)) ?_
    simp
    intros
    refine XCall.ret (by first|exact k3|(simpa[tNever] using k3)) ?_
    simp
    intros
    refine XCall.ret (by first|exact t1|(simpa using t1)) ?_
    simp
    intros
    refine XCall.ret (by first|exact t2|(simpa using t2)) ?_
    simp
    intros
    refine XDCall.ret (by first|exact k5|(simpa using k5)) ?_
    simp[oInt]
    refine XDCall.ret (by first|exact i4|(simpa using i4)) ?_
    simp
    refine XDCall.ret (by first|exact i4|(simpa using i4)) ?_
    simp
 ·subst e1 e2 e3
  simp
  refine XCall.ret (by first|exact i2|(simpa using i2)) ?_
  simp
  refine XCall.ret (by first|exact i3|(simpa using i3)) ?_
  rcases hkk with k|k|k
  all_goals
    simp[k]
    refine XCall.ret (by first|exact k2|(simpa using k2)) ?_
    simp
    intros
    refine XCall.ret (by first|exact k3|(simpa[tNever] using k3)) ?_
    simp
    intros
    refine XCall.ret (by first|exact t1|(simpa using t1)) ?_
    simp
    intros
    refine XCall.ret (by first|exact t2|(simpa using t2)) ?_
    simp
    intros
    refine XDCall.ret (by first|exact k5|(simpa using k5)) ?_
    simp[oInt]
    refine XDCall.ret (by first|exact i4|(simpa using i4)) ?_
    simp
    refine XDCall.ret (by first|exact i4|(simpa using i4)) ?_
    simp
 ·subst e1 e2 e3
  simp
  refine XCall.ret (by first|exact i2|(simpa using i2)) ?_
  simp
  refine XCall.ret (by first|exact i3|(simpa using i3)) ?_
  rcases hkk with k|k|k
  all_goals
    simp[k]
    refine XCall.ret (by first|exact k2|(simpa using k2)) ?_
    simp
    intros
    refine XCall.ret (by first|exact k3|(simpa[tNever] using k3)) ?_
    simp
    intros
    refine XCall.ret (by first|exact t1|(simpa using t1)) ?_
    simp
    intros
    refine XCall.ret (by first|exact t2|(simpa using t2)) ?_
    simp
    intros
    refine XDCall.ret (by first|exact k5|(simpa using k5)) ?_
    simp[oInt]
    refine XDCall.ret (by first|exact i4|(simpa using i4)) ?_
    simp
    refine XDCall.ret (by first|exact i4|(simpa using i4)) ?_
    simp
 ·subst e1 e2 e3
  simp
  refine XCall.ret (by first|exact i2|(simpa using i2)) ?_
  simp
  refine XCall.ret (by first|exact i3|(simpa using i3)) ?_
  clear hkk
  rcases hk with k|k
  all_goals
    simp[k]
    refine XCall.ret (by first|exact k2|(simpa using k2)) ?_
    simp
    intros
    refine XCall.ret (by first|exact k3|(simpa[tNever] using k3)) ?_
    simp
    intros
    refine XCall.ret (by first|exact t1|(simpa using t1)) ?_
    simp
    intros
    refine XCall.ret (by first|exact t2|(simpa using t2)) ?_
    simp
    intros
    refine XDCall.ret (by first|exact k5|(simpa using k5)) ?_
    simp[oInt]
    refine XDCall.ret (by first|exact i4|(simpa using i4)) ?_
    simp
    refine XDCall.ret (by first|exact i4|(simpa using i4)) ?_
    simp
end Go.Proofs.YtfilonnphgnplaaGreatDoor.Pv
namespace Go.Proofs.YtfilonnphgnplaaGreatDoor.Pv
open Go Go.Tidy
theorem tidySums_ret (x0:Go.Tidy.Ty) (x1:Go.Tidy.Ty) (x2:Go.Tidy.Val):Ret prog M.F_law11_TidySums [.agg (cT x0),.agg (cT x1),.agg (cV x2)] (.bool true):=c_law11_TidySums libOk x0 x1 x2
end Go.Proofs.YtfilonnphgnplaaGreatDoor.Pv
set_option maxRecDepth 100000
namespace Go.Proofs.YtfilonnphgnplaaGreatDoor.Pv
open Go Go.Tidy
theorem c_law11_objs (a b:Ty) (h:a.objects.length+b.objects.length≤68719476736):Ret prog M.F_law11_objs [.agg (cT a),.agg (cT b)] (.vec 12 false ((a.objects++b.objects).map encObj)):=by
 refine Ret.go hmix h_law11_objs (by simp) fun hb w0 F0 hG=>?_
 have h1:a.objects.length≤68719476736:=by omega
 simp[h,h1]
 rw[List.take_of_length_le (by simp)]
theorem c_law11_allFormed (l:List Ob):Ret prog M.F_law11_allFormed [.vec 12 false (l.map encObj)] (.bool (l.all fun o=>formedT (aloneT o))):=by
 refine Ret.go hmix h_law11_allFormed (by simp) fun hb w0 F0 hG=>?_
 simp only[bndL,bndV,List.length_map,LIM,and_true] at hb
 generalize hB:(l.all fun o=>formedT (aloneT o))=B
 obtain⟨J,hJ⟩ : ∃ J:Nat→Unit→Prop,J=fun k _=>AllTo (fun o=>formedT (aloneT o)) l k:=⟨_,rfl⟩
 simp
 refine XLoop.cnt hmix l.length (fun k _=>⟨[(3,.int .i64 k),(2,.bool false),(0,.vec 12 false (l.map encObj))],[]⟩) J () (by rw[hJ]; exact .zero) (by simp) fun k _ hk hj=>?_
 have hw:=wrap64 (n:=(k:Int)+1) (by omega) (by omega)
 have hj' : AllTo (fun o=>formedT (aloneT o)) l k:=by rw[hJ] at hj; exact hj
 by_cases q1:k<l.length
 ·have c1:=c_ref11_Alone l[k]
  have c2:=c_ref09_Formed (aloneT l[k])
  cases e1:formedT (aloneT l[k])
  ·have hBf:B=false:=by rw[← hB,List.all_eq_false]; exact⟨l[k],List.getElem_mem q1,by simp[e1]⟩
   rw[e1] at c2
   simp[q1]
   refine XCall.ret (by simpa using c1) ?_
   simp
   refine XCall.ret (by simpa using c2) ?_
   simp[hBf]
  ·have hJn:J (k+1) ():=by rw[hJ]; exact hj'.step q1 e1
   rw[e1] at c2
   simp[q1]
   refine XCall.ret (by simpa using c1) ?_
   simp
   refine XCall.ret (by simpa using c2) ?_
   simp[q1,hw]
   exact⟨(),hJn⟩
 ·have hBt:B=true:=by rw[← hB]; exact hj'.all q1
  simp[q1,hBt]
theorem formed_alone {o:Ob}:formedT (aloneT o)=true↔formedO o=true:=⟨fun h=>(formedT_spec h).2.2.2.2.2.2.2 o (by simp[aloneT]),alone_formed⟩
set_option maxHeartbeats 8000000 in
theorem c_law11_TidyOnes (hL:LibOk) (a b:Ty) (v:Val) (hab:a.objects.length+b.objects.length≤68719476736):Ret prog M.F_law11_TidyOnes [.agg (cT a),.agg (cT b),.agg (cV v)] (.bool true):=by
 refine Ret.go hmix h_law11_TidyOnes (by simp) fun hb w0 F0 hG=>?_
 have c0:=c_law11_fixed hL
 have c1:=c_law11_fits a b
 have cO:=c_law11_objs a b hab
 obtain⟨fv,c2⟩:=c_kit_Fit1 v
 have c4:=c_ref03_Formed v
 generalize hl:a.objects++b.objects=l at *
 have hll:l.length≤68719476736:=by rw[← hl,List.length_append]; exact hab
 have c3:=c_law11_allFormed l
 simp
 intros
 refine XCall.ret (by first|exact c0|(simp; exact c0)) ?_
 simp
 refine XCall.ret (by first|exact cO|(simp; exact cO)) ?_
 simp
 refine XCall.ret (by first|exact c1|(simp; exact c1)) ?_
 cases g:fitsB a b
 ·simp[g]
 simp[g]
 intros
 refine XCall.ret (by first|exact c2|(simpa using c2)) ?_
 cases g1:fv
 ·simp
 simp
 refine XCall.ret (by first|exact c3|(simp; exact c3)) ?_
 cases g2:(l.all fun o=>formedT (aloneT o))
 ·simp[g2]
 have hf:∀ o∈l,formedO o=true:=fun o ho=>formed_alone.1 (List.all_eq_true.1 g2 o ho)
 clear g2 c3
 by_cases g4:l=[]
 ·simp[g4]
 have g4' : ¬ (l.length:Int)=0:=by have:=List.length_pos_iff.2 g4; omega
 simp[g4,g4']
 refine XCall.ret (by first|exact c4|(simpa using c4)) ?_
 cases g3:formedV v
 ·simp[g3]
 have hfa:fitB a=true:=by
  unfold fitsB at g
  simp only[Bool.and_eq_true] at g
  exact g.1.1.1
 have hfb:fitB b=true:=by
  unfold fitsB at g
  simp only[Bool.and_eq_true] at g
  exact g.1.1.2
 obtain⟨f1,f2,f3⟩:=fit_both hfa hfb
 have hbd:∀ o∈l,bdO (nmsT a++nmsT b) 20000 o:=fun o ho=>by
  rw[← hl] at ho
  rcases List.mem_append.1 ho with k|k
  ·exact (bdT_iff.1 f2).2.2.2 o k
  ·exact (bdT_iff.1 f3).2.2.2 o k
 have hlen:l.length≤40000:=by
  rw[← hl,List.length_append]
  have:=(bdT_iff.1 f2).2.1
  have:=(bdT_iff.1 f3).2.1
  omega
 have k1:=p_One hL (nmsT a++nmsT b) 20000 l g4 hf hbd (by omega) (by omega) (by omega)
 have m1:∀ o∈l,inT (aloneT o) v=true→inT (aloneT (oneO l)) v=true:=fun o ho h=>by
  obtain⟨h1,h2⟩:=(in_alone g3).1 h
  exact (in_alone g3).2 ⟨h1,in_oneO hf g3 h1 ho h2⟩
 have f1':=formed_oneO hf g4
 have k2:=c_ref11_Alone (oneO l)
 have k3:=c_ref09_Formed (aloneT (oneO l))
 rw[alone_formed f1'] at k3
 have k4:=c_ref09_In (aloneT (oneO l)) v (alone_formed f1') g3
 obtain⟨o0,hl0⟩ : ∃ o0,l.take 1=[o0]∧l[0]? = some o0:=by
  cases l with
  | nil=>exact absurd rfl g4
  | cons o l=>exact⟨o,rfl,rfl⟩
 have ho0:o0∈l:=List.mem_of_getElem? hl0.2
 have k5:=p_One hL (nmsT a++nmsT b) 20000 [o0] (by simp) (by simpa using hf o0 ho0) (by simpa using hbd o0 ho0) (by omega) (by simp) (by omega)
 rw[oneO_one (hf o0 ho0)] at k5
 have k6:=c_ref11_Alone o0
 have k7:=c_ref09_Cmp (aloneT o0) (aloneT o0) (alone_formed (hf o0 ho0)) (alone_formed (hf o0 ho0))
 rw[cmpT_refl] at k7
 generalize oneO l=r at *
 simp[g3]
 refine XCall.ret (by first|exact k1|(simpa using k1)) ?_
 simp
 intros
 refine XCall.ret (by first|exact k2|(simpa using k2)) ?_
 simp
 refine XCall.ret (by first|exact k3|(simpa using k3)) ?_
 simp
 rename_i w3 w4 w5 w23 w8
 refine XLoop.cnt hmix l.length (fun k (_:Unit)=>⟨[(10,.int .i64 k),(8,.ptr (8,w8) 12 0 0),(7,.vec 12 false (l.map encObj)),(6,.bool false),(5,.ptr (5,w5) 5 0 0)],[((8,w8),some ⟨12,[Pv.cO r],false,true⟩),((5,w5),some ⟨5,[cV v],false,true⟩)]⟩) (fun _ _=>True) () trivial (by simp) fun k _ hk _=>?_
 have hw:=wrap64 (n:=(k:Int)+1) (by omega) (by omega)
 by_cases q1:k<l.length
 ·have e1:=c_ref11_Alone l[k]
  have e2:=c_ref09_In (aloneT l[k]) v (alone_formed (hf _ (List.getElem_mem q1))) g3
  have e3:=m1 _ (List.getElem_mem q1)
  generalize hok:l[k]=o at *
  generalize inT (aloneT o) v=p at *
  cases p
  ·simp[q1,hok]
   intros
   refine XDCall.ret (by first|exact e1|(simpa using e1)) ?_
   simp[hok]
   refine XDCall.ret (by first|exact e2|(simpa using e2)) ?_
   simp[q1,hw]
  ·rw[e3 rfl] at k4
   simp[q1,hok]
   intros
   refine XDCall.ret (by first|exact e1|(simpa using e1)) ?_
   simp[hok]
   refine XDCall.ret (by first|exact e2|(simpa using e2)) ?_
   simp[q1,hok]
   refine XDCall.ret (by first|exact k2|(simpa using k2)) ?_
   simp[q1,hok]
   refine XDCall.ret (by first|exact k4|(simpa using k4)) ?_
   simp[q1,hw]
 ·obtain⟨l',he⟩ : ∃ l',l=o0::l':=by
     cases l with
     | nil=>exact absurd rfl g4
     | cons o l=>exact⟨l,by rw[Option.some.inj hl0.2]⟩
  simp[q1,g4]
  refine⟨by omega,?_⟩
  rw[he]
  simp
  refine XCall.ret (by first|exact k5|(simpa using k5)) ?_
  simp
  intros
  refine XDCall.ret (by first|exact k6|(simpa using k6)) ?_
  simp
  refine XDCall.ret (by first|exact k6|(simpa using k6)) ?_
  simp
  refine XDCall.ret (by first|exact k7|(simpa using k7)) ?_
  simp[oInt]
end Go.Proofs.YtfilonnphgnplaaGreatDoor.Pv
namespace Go.Proofs.YtfilonnphgnplaaGreatDoor.Pv
open Go Go.Tidy
theorem tidyOnes_ret (x0:Go.Tidy.Ty) (x1:Go.Tidy.Ty) (x2:Go.Tidy.Val) (hs:x0.objects.length+x1.objects.length≤68719476736):Ret prog M.F_law11_TidyOnes [.agg (cT x0),.agg (cT x1),.agg (cV x2)] (.bool true):=c_law11_TidyOnes libOk x0 x1 x2 hs
end Go.Proofs.YtfilonnphgnplaaGreatDoor.Pv
namespace Go.Proofs.YtfilonnphgnplaaGreatDoor
open Go Go.ChangeShapes Go.WideShapes Go.ChangeAt Go.RowKit
theorem bulk_one {H:Type} (d:DataW H):1≤Rows.uptoBulk d:=by
 cases d with
 | lit l=>cases l<;>simp[Rows.uptoBulk]
 | nil|ptr _|slice _ _|agg _|iface _ _|map _|held _=>simp[Rows.uptoBulk]
theorem bulk_len {H:Type}:∀ l:List (DataW H),l.length≤Rows.uptoBulkAll l
 | []=>by simp[Rows.uptoBulkAll]
 | x::r=>by
   have:=bulk_one x
   have:=bulk_len r
   simp only[Rows.uptoBulkAll,List.length_cons]; omega
theorem bulk_mem {H:Type} {d:DataW H}:∀ {l:List (DataW H)},d∈l→Rows.uptoBulk d≤Rows.uptoBulkAll l
 | [],h=>by cases h
 | x::r,h=>by
   simp only[Rows.uptoBulkAll]
   rcases List.mem_cons.1 h with rfl|h
   ·omega
   ·have:=bulk_mem h; omega
section
variable {H:Type} {enc:TypeId × Value→H} {P:Program} {W:World}
theorem struct_bulk {k:Nat} {t:TypeId} {fl:List (TypeId × Nat)} {cs:List Value} {d:DataW H} {ps:List MemPlace} (hf:Pv.flds P t=some fl) (h:DataW.trod enc P W 0 (fun _=>true) true (k+1) t cs=some (d,ps)) {i:Nat} {ty off:Nat} (hi:fl[i]? = some (ty,off)) :
 ∃ di pi,DataW.trod enc P W 0 (fun _=>true) true k ty ((cs.drop off).take (P.cellsOf ty))=some (di,pi)∧Rows.uptoBulk di+1≤Rows.uptoBulk d:=by
 unfold Pv.flds at hf
 split at hf
 ·rename_i fs hfs
  cases hf
  unfold DataW.trod at h
  rw[hfs] at h
  simp only at h
  split at h
  ·simp only[Option.map_eq_some_iff] at h
   obtain⟨xs,h1,h2⟩:=h
   cases h2
   obtain⟨h3,h4⟩:=Pv.mapM_some h1
   rw[List.getElem?_map,Option.map_eq_some_iff] at hi
   obtain⟨f,hi,e⟩:=hi
   cases e
   obtain⟨hlt,hi⟩:=List.getElem?_eq_some_iff.1 hi
   obtain⟨x,k1,k2⟩:=h4 i hlt
   rw[hi] at k2
   refine⟨x.1,x.2,k2,?_⟩
   simp only[Rows.uptoBulk]
   have:=bulk_mem (List.mem_map.2 ⟨x,List.mem_of_getElem? k1,rfl⟩ : x.1∈xs.map (·.1))
   omega
  ·cases h
 ·cases hf
theorem slice_bulk {k:Nat} {t e:TypeId} {a:Option Addr} {len cap:Nat} {d:DataW H} {ps:List MemPlace} (ht:P.underlying t=some (.slice e)) (h:DataW.trod enc P W 0 (fun _=>true) true k t [.slice a len cap]=some (d,ps)):len≤Rows.uptoBulk d:=by
 cases k with
 | zero=>simp[DataW.trod] at h
 | succ k =>
   unfold DataW.trod at h
   rw[ht] at h
   simp only at h
   split at h
   all_goals (first|(cases h; done)|skip)
   all_goals (simp only[reduceCtorEq,Option.some.injEq,TypeDesc.slice.injEq,List.cons.injEq,Value.slice.injEq,and_true] at *)
   ·rename_i hh
    omega
   ·rename_i hh
    obtain⟨-,rfl,rfl⟩:=hh
    split at h
    ·simp only[Option.bind_eq_some_iff,Option.map_eq_some_iff] at h
     obtain⟨els,h1,rest,h2,h3⟩:=h
     cases h3
     have h4:=(Pv.mapM_some h1).1
     rw[List.length_range] at h4
     simp only[Rows.uptoBulk]
     have:=bulk_len (els.map (·.1))
     rw[List.length_map] at this
     omega
    ·cases h
end
theorem objs_bulk {H:Type} {enc:TypeId × Value→H} {W:World} {c:Pv.Ctx} {v:Value} {d:DataW H} {ps:List MemPlace} {x:Go.Tidy.Ty} (h:DataW.Trod enc Tryz.prog W 0 (fun _=>true) true 30 v d ps) (hr:Pv.RepV W c (.agg (Pv.cT x)) v):x.objects.length≤Rows.uptoBulk d:=by
 obtain⟨fuel,h⟩:=h
 obtain⟨vs,rfl,hr,_⟩:=hr
 cases fuel with
 | zero=>simp[DataW.trod] at h
 | succ k =>
   obtain⟨di,pi,h1,h2⟩:=struct_bulk tysOk.ty h (i:=8) (ty:=28) (off:=8) rfl
   obtain⟨u,hu,hru⟩:=Pv.RepL.get 8 (.vec 12 false (x.objects.map Pv.encObj)) hr rfl
   obtain⟨a,cap,e,_⟩:=hru
   rw[tysOk.c 28 (by decide)] at h1
   have hc:((Value.agg vs).cells.toList.drop 8).take 1=[u]:=by
    show (vs.toList.drop 8).take 1=[u]
    rw[List.drop_eq_getElem_cons (List.getElem?_eq_some_iff.1 hu).1,List.take_succ_cons,List.take_zero,(List.getElem?_eq_some_iff.1 hu).2]
   rw[hc,e,List.length_map] at h1
   have:=slice_bulk tysOk.l28 h1
   omega
theorem row_fits {H:Type} {enc:TypeId × Value→H} {C:Checked} {os:Os} {f:FuncId} {fn:Func} {s:OpenSpec} {conds:List PathCond} {apart:Bool} {laid:List (String × DataW Unit)} (w0:World) (args:Array Value) (fuel:Nat) (hos:w0.os=os)
 (hsh:(w0.forCall (fun _ _=>0) ⟨#[],args,[]⟩).Shaped C.prog)
 (hok:Input.okWideB C.prog (w0.forCall (fun _ _=>0) ⟨#[],args,[]⟩) f ⟨#[],args,[]⟩=true)
 (h0:(DataW.whole enc C.prog (w0.forCall (fun _ _=>0) ⟨#[],args,[]⟩).memory fn.params.toList s.vars apart args.toList fuel).isSome=true)
 (hconds:conds=[]) (hkk:∀ k,s.cond=some k→k H (((DataW.whole enc C.prog (w0.forCall (fun _ _=>0) ⟨#[],args,[]⟩).memory fn.params.toList s.vars apart args.toList fuel).get h0).1++((DataW.whole enc C.prog (w0.forCall (fun _ _=>0) ⟨#[],args,[]⟩).memory fn.params.toList s.vars apart args.toList fuel).get h0).2.1)=true)
 (hsz:s.bare.sizedB enc C.prog fn apart (w0.forCall (fun _ _=>0) ⟨#[],args,[]⟩).memory args fuel=true) (hl:laidMetH C.prog laid (w0.forCall (fun _ _=>0) ⟨#[],args,[]⟩).memory) :
 ∃ (w:World) (tape:Tape) (i:Input),w.os=os∧(w.forCall tape i).Shaped C.prog∧i.vars=[]∧Input.okWide C.prog (w.forCall tape i) .any w.heap.size f i ∧
   s.preRow enc C.prog fn conds apart laid (w.forCall tape i).memory i.args∧({}:Assume).holds C.prog (lone (Frame.enter C.prog f i.args .normal) [] (w.forCall tape i)) :=
 ⟨w0,fun _ _=>0,⟨#[],args,[]⟩,hos,hsh,(Input.okWide_of_okWideB (base:=0) hok).1,(Input.okWide_of_okWideB hok).2,OpenSpec.preRow_of_cond fuel (Option.some_get h0).symm (by rw[hconds]; rfl) hkk hsz hl,by
  simp only[Assume.holds]
  exact⟨by simp,by simp,(fun h=>by cases h),by simp,by simp⟩⟩
end Go.Proofs.YtfilonnphgnplaaGreatDoor

/- Part 8. -/
import Derived.Test.YtbdogkmdanmojaaGreatDoorV7
set_option linter.unusedSimpArgs false
set_option linter.unusedVariables false
namespace Go.Tidy
open Go
mutual
def nmT (n : Nat) : Ty→Bool
 | .mk _ _ _ _ _ _ _ az os=>nmAs n az&&nmOs n os
def nmAs (n : Nat) : List Arr→Bool
 | []=>true
 | .mk t _ _::l=>nmT n t&&nmAs n l
def nmOs (n : Nat) : List Ob→Bool
 | []=>true
 | .mk ns fs _ r::l=>decide (ns.length≤n)&&nmTs n fs&&nmT n r&&nmOs n l
def nmTs (n : Nat) : List Ty→Bool
 | []=>true
 | t::l=>nmT n t&&nmTs n l
end
theorem nmAs_mem {n : Nat} {l : List Arr} (h : nmAs n l=true) {a : Arr} (ha : a ∈ l) : nmT n a.item=true:=by
 induction l with
 | nil=>simp at ha
 | cons b l ih =>
   obtain ⟨t,lo,hi⟩:=b
   simp only [nmAs,Bool.and_eq_true] at h
   rcases List.mem_cons.1 ha with rfl | ha
   ·exact h.1
   ·exact ih h.2 ha
theorem nmTs_mem {n : Nat} {l : List Ty} (h : nmTs n l=true) {a : Ty} (ha : a ∈ l) : nmT n a=true:=by
 induction l with
 | nil=>simp at ha
 | cons b l ih =>
   simp only [nmTs,Bool.and_eq_true] at h
   rcases List.mem_cons.1 ha with rfl | ha
   ·exact h.1
   ·exact ih h.2 ha
theorem nmOs_mem {n : Nat} {l : List Ob} (h : nmOs n l=true) {o : Ob} (ho : o ∈ l) : o.names.length≤n∧(∀ t ∈ o.fields,nmT n t=true)∧nmT n o.rest=true:=by
 induction l with
 | nil=>simp at ho
 | cons b l ih =>
   obtain ⟨ns,fs,ms,r⟩:=b
   simp only [nmOs,Bool.and_eq_true,decide_eq_true_eq] at h
   rcases List.mem_cons.1 ho with rfl | ho
   ·exact ⟨h.1.1.1,fun t ht=>nmTs_mem h.1.1.2 ht,h.1.2⟩
   ·exact ih h.2 ho
theorem nmT_def {n : Nat} (t : Ty) : nmT n t=(nmAs n t.arrays&&nmOs n t.objects):=by cases t; rfl
theorem formedA_spec {a : Arr} (h : formedA a=true) : 0≤a.min∧-1≤a.max∧(a.max < 0∨a.min≤a.max)∧formedT a.item=true∧(never a.item=true↔a.max=0):=by
 obtain ⟨t,lo,hi⟩:=a
 simp only [formedA,Bool.and_eq_true,Bool.or_eq_true,decide_eq_true_eq,beq_iff_eq] at h
 refine ⟨h.1.1.1.1,h.1.1.1.2,h.1.1.2,h.1.2,?_⟩
 show never t=true↔hi=0
 rw [h.2,decide_eq_true_eq]
theorem formedO_spec {o : Ob} (h : formedO o=true) : o.names.length=o.fields.length∧o.names.length=o.must.length∧riseB o.names=true∧formedT o.rest=true∧(∀ f ∈ o.fields,formedT f=true)∧∀ p ∈ o.fields.zip o.must,p.2=true→never p.1=false:=by
 obtain ⟨ns,fs,ms,r⟩:=o
 simp only [formedO,Bool.and_eq_true,decide_eq_true_eq,formedTs_all,List.all_eq_true,Bool.or_eq_true,Bool.not_eq_true'] at h
 refine ⟨h.1.1.1.1.1,h.1.1.1.1.2,h.1.1.1.2,h.1.1.2,h.1.2,fun p hp hm=>?_⟩
 rcases h.2 p hp with h | h
 ·rw [hm] at h; cases h
 ·exact h
theorem formedT_spec {t : Ty} (h : formedT t=true) : (t.all=true→bare t=true)∧riseB t.texts=true∧(t.any=true→t.texts=[])∧t.nums.length≤1∧(∀ s ∈ t.nums,spanB s=true)∧t.arrays.length≤1∧(∀ a ∈ t.arrays,formedA a=true)∧∀ o ∈ t.objects,formedO o=true:=by
 obtain ⟨a,b,c,d,ns,e,ts,az,os⟩:=t
 simp only [formedT,Bool.and_eq_true,Bool.or_eq_true,Bool.not_eq_true',decide_eq_true_eq,formedAs_all,formedOs_all,List.all_eq_true,List.isEmpty_iff] at h
 refine ⟨fun ha=>?_,h.1.1.1.1.1.1.2,fun he=>?_,h.1.1.1.1.2,h.1.1.1.2,h.1.1.2,h.1.2,h.2⟩
 ·rcases h.1.1.1.1.1.1.1 with h | h
  ·exact absurd ha (by show ¬ a=true; rw [h]; simp)
  ·exact h
 ·rcases h.1.1.1.1.1.2 with h | h
  ·exact absurd he (by show ¬ e=true; rw [h]; simp)
  ·exact h
end Go.Tidy
namespace Go.Tidy
open Go
end Go.Tidy
namespace Go.Tidy
open Go
end Go.Tidy
namespace Go.Tidy
open Go
def hle (n : Nat) (o : Ob) : Prop:=heightT o.rest≤n∧∀ f ∈ o.fields,heightT f≤n
end Go.Tidy
namespace Go.Proofs.YtbdogkmdanmojaaGreatDoor.Pv
open Go Go.Tidy
def oInt : Ordering→Int
 | .lt=>-1
 | .eq=>0
 | .gt=>1
@[simp] theorem oInt_lt : oInt .lt=-1:=rfl
@[simp] theorem oInt_eq : oInt .eq=0:=rfl
@[simp] theorem oInt_gt : oInt .gt=1:=rfl
def bs (l : List UInt8) : S:=⟨l.toArray⟩
theorem bs_toList (s : S) : bs s.data.toList=s:=by unfold bs; simp
@[simp] theorem bs_data (l : List UInt8) : (bs l).data.toList=l:=by simp [bs]
@[simp] theorem bs_size (l : List UInt8) : (bs l).size=l.length:=by simp [bs,ByteArray.size]
@[simp] theorem bs_get (l : List UInt8) (i : Nat) : (bs l).data[i]? = l[i]? := by simp [bs]
@[simp] theorem bs_getE (l : List UInt8) (i : Nat) (h : i < (bs l).data.size) : (bs l).data[i]=l[i]'(by simpa [bs] using h):=by simp [bs]
theorem u8_eq {c : UInt8} (d : UInt8) : ((c.toNat : Int)=(d.toNat : Int))↔c=d:=by rw [Int.natCast_inj]; exact UInt8.toNat_inj
@[simp] theorem u8_45 {c : UInt8} : ((c.toNat : Int)=45)↔c=45:=u8_eq 45
@[simp] theorem u8_48 {c : UInt8} : ((c.toNat : Int)=48)↔c=48:=u8_eq 48
@[simp] theorem u8_lt48 {c : UInt8} : ((c.toNat : Int) < 48)↔¬ 48≤c:=by rw [UInt8.le_iff_toNat_le]; simp; omega
@[simp] theorem u8_gt57 {c : UInt8} : (57 < (c.toNat : Int))↔¬ c≤57:=by rw [UInt8.le_iff_toNat_le]; simp; omega
theorem strLt_eq (a b : S) : strLt a b=sLt a b:=rfl
theorem strEq_eq (a b : S) : strEq a b=sEq a b:=rfl
attribute [simp] strLt_eq strEq_eq
theorem bs_extract (l : List UInt8) (a b : Nat) : (bs l).extract a b=bs ((l.drop a).take (b - a)):=by
 unfold bs
 apply ByteArray.ext
 apply Array.ext'
 simp [ByteArray.data_extract,List.extract_eq_take_drop]
theorem sEq_bs (l m : List UInt8) : sEq (bs l) (bs m)=(l == m):=by simp [sEq]
theorem sEq_lit (l m : List UInt8) : sEq (bs l) ⟨m.toArray⟩=(l == m):=by simp [sEq]
theorem sLt_bs (l m : List UInt8) : sLt (bs l) (bs m)=Op.bytesLess l m:=by simp [sLt]
theorem c_ref03_Texts (a b : S) : Ret prog M.F_ref03_Texts [.str a,.str b] (.int .i64 (oInt (sCmp a b))):=by
 refine Ret.go hmix h_ref03_Texts (by simp) fun hb w0 F0 hG=>?_
 simp +contextual [sCmp]
theorem natI {a b : Nat} : ((a : Int)=(b : Int))↔a=b:=Int.natCast_inj
theorem cmpN_gt {a b : Nat} : compare a b=.gt↔b < a:=by rw [cmpN_eq',cmpI_gt]; omega
theorem cmpN_lt {a b : Nat} : compare a b=.lt↔a < b:=by rw [cmpN_eq',cmpI_lt]; omega
theorem c_tens_split (l : List UInt8) (h : 0 < l.length) : Ret prog M.F_tens_split [.str (bs l)] (.tup [.bool (neg (bs l)),.str (bs (digs (bs l)))]):=by
 refine Ret.go hmix h_tens_split (by simp) fun hb w0 F0 hG=>?_
 match l,h with
 | c::l,_ =>
   simp +contextual [neg,digs,bs_extract]
   omega
theorem c_tens_size (l m : List UInt8) : Ret prog M.F_tens_size [.str (bs l),.str (bs m)] (.int .i64 (oInt (digCmp l m))):=by
 refine Ret.go hmix h_tens_size (by simp) fun hb w0 F0 hG=>?_
 simp only [bndL,bndV,bs_size,LIM,and_true] at hb
 simp +contextual [sLt_bs,sEq_bs,natI,digCmp,lCmp,Ordering.then]
 intro h
 rw [wrap64 (by omega) (by omega)]
 rcases Nat.lt_or_gt_of_ne h with h | h
 ·rw [cmpN_lt.2 h]; simp; repeat' split
  all_goals omega
 ·rw [cmpN_gt.2 h]; simp; repeat' split
  all_goals omega
theorem numB_eq {l d : List UInt8} (hd : digs (bs l)=d) (h : l ≠ [48]) : numB (bs l)=(d.all isDig&&!d.isEmpty&&d.head? != some 48):=by
 unfold numB
 rw [hd]
 have : (l == [48])=false:=by simpa using h
 simp [this]
theorem take_all {α : Type} {p : α→Bool} {d : List α} {i : Nat} (hi : i < d.length) (h : (d.take i).all p=true) : (d.take (i+1)).all p=p d[i]:=by
 rw [List.take_add_one,List.getElem?_eq_getElem hi]
 simp only [Option.toList_some,List.all_append,h,List.all_cons,List.all_nil,Bool.and_true,Bool.true_and]
theorem all_false {α : Type} {p : α→Bool} {d : List α} {i : Nat} (hi : i < d.length) (h : p d[i]=false) : d.all p=false:=by
 rw [List.all_eq_false]
 exact ⟨d[i],List.getElem_mem hi,by simp [h]⟩
theorem isDig_iff {c : UInt8} : isDig c=true↔48≤c∧c≤57:=by simp [isDig]
theorem c_tens_Formed (s : S) : Ret prog M.F_tens_Formed [.str s] (.bool (numB s)):=by
 obtain ⟨l,rfl⟩ : ∃ l,s=bs l:=⟨_,(bs_toList s).symm⟩
 refine Ret.go hmix h_tens_Formed (by simp) fun hb w0 F0 hG=>?_
 simp only [bndL,bndV,bs_size,LIM,and_true] at hb
 simp +contextual [sEq_lit]
 refine ⟨fun h=>?_,fun h=>?_⟩
 ·subst h; decide
 ·refine XCut.one hmix ⟨[(0,.str (bs (digs (bs l)))),(2,.bool false)],[]⟩ ?_ ?_
  ·match l with
   | []=>simp +contextual [sEq_lit,digs,neg]
   | c::m=>simp +contextual [sEq_lit,digs,neg,bs_extract]; omega
  ·have hdl : (digs (bs l)).length≤l.length:=by unfold digs; split <;> simp
   generalize hd : digs (bs l)=d at hdl
   rw [numB_eq hd h]
   match d with
   | []=>simp +contextual [sEq_lit]
   | c::m =>
     simp +contextual [sEq_lit]
     intro hc
     have hn : (c::m).length≤140737488355328:=by omega
     have hc' : (some c != some (48 : UInt8))=true:=by simpa using hc
     rw [hc',Bool.and_true]
     have e : (isDig c&&m.all isDig)=(c::m).all isDig:=by simp
     rw [e]
     obtain ⟨J,hJ⟩ : ∃ J : Nat→Unit→Prop,J=fun i _=>((c::m).take i).all isDig=true:=⟨_,rfl⟩
     refine XLoop.cnt hmix (c::m).length (fun i _=>⟨[(24,.int .i64 i),(23,.int .i64 (c::m).length),(0,.str (bs (c::m))),(2,.bool false)],[]⟩) J () (by rw [hJ]; rfl) (by simp) fun i _ hi hj=>?_
     clear e hdl hd hc hc'
     generalize c::m=l1 at *
     have hw:=wrap64 (n:=(i : Int)+1) (by omega) (by omega)
     by_cases h1 : i < l1.length
     ·by_cases hd' : isDig l1[i]=true
      ·obtain ⟨k1,k2⟩:=isDig_iff.1 hd'
       simp +contextual [h1,hw,k1,k2,UInt8.not_lt.2 k1,UInt8.not_lt.2 k2]
       refine ⟨(),?_⟩
       subst hJ
       show (l1.take (i+1)).all isDig=true
       rw [take_all h1 hj]; exact hd'
      ·have k1 : ∃ x,x ∈ l1∧isDig x=false:=⟨_,List.getElem_mem h1,by simpa using hd'⟩
       have k2 : 48≤l1[i]→¬ l1[i]≤57:=fun h h'=>hd' (isDig_iff.2 ⟨h,h'⟩)
       simp +contextual [h1,hw,k1,k2]
     ·have : i=l1.length:=by omega
      subst hJ
      have hj1 : (l1.take i).all isDig=true:=hj
      simp only [this,List.take_length,List.all_eq_true] at hj1
      simp +contextual [h1]
      exact hj1
theorem numB_pos {a : S} (h : numB a=true) : ∃ l,a=bs l∧0 < l.length:=by
 refine ⟨a.data.toList,(bs_toList a).symm,?_⟩
 rcases Nat.eq_zero_or_pos a.data.toList.length with h0 | h0
 ·have : a.data.toList=[]:=List.eq_nil_of_length_eq_zero h0
  simp [numB,digs,neg,this] at h
 ·exact h0
theorem c_tens_Cmp (a b : S) : Ret prog M.F_tens_Cmp [.str a,.str b] (.tup [.int .i64 (if numB a&&numB b then oInt (numCmp a b) else 0),.int .i64 (if numB a&&numB b then 0 else 1)]):=by
 refine Ret.go hmix h_tens_Cmp (by simp) fun hb w0 F0 hG=>?_
 simp
 refine XCall.ret (c_tens_Formed a) ?_
 cases ha : numB a
 ·simp
 ·simp
  refine XCall.ret (c_tens_Formed b) ?_
  cases hb' : numB b
  ·simp
  ·obtain ⟨l,rfl,hl⟩:=numB_pos ha
   obtain ⟨m,rfl,hm⟩:=numB_pos hb'
   simp
   refine XCall.ret (c_tens_split l hl) ?_
   simp
   refine XCall.ret (c_tens_split m hm) ?_
   unfold numCmp
   cases neg (bs l) <;> cases neg (bs m) <;> simp
   ·refine XCall.ret (c_tens_size _ _) ?_
    simp
   ·refine XCall.ret (c_tens_size _ _) ?_
    simp
def worthI (a b : S) : Int:=if numB a&&numB b then oInt (numCmp a b) else 0
theorem c_shape_worth (a b : S) : Ret prog M.F_shape_worth [.str a,.str b] (.int .i64 (worthI a b)):=by
 refine Ret.go hmix h_shape_worth (by simp) fun hb w0 F0 hG=>?_
 simp
 refine XCall.ret (c_tens_Cmp a b) ?_
 simp [worthI]
end Go.Proofs.YtbdogkmdanmojaaGreatDoor.Pv
namespace Go.Proofs.YtbdogkmdanmojaaGreatDoor.Pv
open Go Go.Tidy
section
variable {α : Type} {g : α→α→Ordering} {a b : List α} {i : Nat}
theorem lex_step (h1 : i < a.length) (h2 : i < b.length) : lexC g (a.drop i) (b.drop i)=(g a[i] b[i]).then (lexC g (a.drop (i+1)) (b.drop (i+1))):=by
 rw [List.drop_eq_getElem_cons h1,List.drop_eq_getElem_cons h2]; rfl
end
theorem then_ne {p q : Ordering} (h : p ≠ .eq) : p.then q=p:=by cases p <;> simp_all [Ordering.then]
theorem then_e {p q : Ordering} (h : p=.eq) : p.then q=q:=by subst h; rfl
end Go.Proofs.YtbdogkmdanmojaaGreatDoor.Pv
namespace Go.Proofs.YtbdogkmdanmojaaGreatDoor.Pv
open Go Go.Tidy
end Go.Proofs.YtbdogkmdanmojaaGreatDoor.Pv
namespace Go.Proofs.YtbdogkmdanmojaaGreatDoor.Pv
open Go Go.Tidy
open Classical in
noncomputable def eqv {α : Type} (a b : α) : Bool:=decide (a=b)
theorem eqv_true {α : Type} {a b : α} (h : a=b) : eqv a b=true:=by simp [eqv,h]
theorem eqv_false {α : Type} {a b : α} (h : a ≠ b) : eqv a b=false:=by simp [eqv,h]
theorem eqv_iff {α : Type} {a b : α} : eqv a b=true↔a=b:=by simp [eqv]
theorem take_eq {α : Type} {a b : List α} {i : Nat} (h1 : i < a.length) (h2 : i < b.length) (h : a.take i=b.take i) (he : a[i]=b[i]) : a.take (i+1)=b.take (i+1):=by
 rw [List.take_add_one,List.take_add_one,h,List.getElem?_eq_getElem h1,List.getElem?_eq_getElem h2,he]
theorem ne_at {α : Type} {a b : List α} {i : Nat} (h1 : i < a.length) (h2 : i < b.length) (he : a[i] ≠ b[i]) : a ≠ b:=fun h=>by subst h; exact he rfl
theorem c_kit_SameStrings (a b : List S) : Ret prog M.F_kit_SameStrings [.vec 1 false (a.map encStr),.vec 1 false (b.map encStr)] (.bool (eqv a b)):=by
 refine Ret.go hmix h_kit_SameStrings (by simp) fun hb w0 F0 hG=>?_
 simp only [bndL,bndV,List.length_map,LIM,and_true] at hb
 by_cases hl : a.length=b.length
 ·simp [hl]
  obtain ⟨J,hJ⟩ : ∃ J : Nat→Unit→Prop,J=fun i _=>a.take i=b.take i:=⟨_,rfl⟩
  refine XLoop.cnt hmix a.length (fun i _=>⟨[(5,.int .i64 i),(0,.vec 1 false (a.map encStr)),(1,.vec 1 false (b.map encStr)),(4,.bool false)],[]⟩) J () (by simp [hJ]) (by simp) fun i _ hi hj=>?_
  have hw:=wrap64 (n:=(i : Int)+1) (by omega) (by omega)
  have hj' : a.take i=b.take i:=by subst hJ; exact hj
  by_cases h1 : i < a.length
  ·have h2 : i < b.length:=by omega
   simp [h1,h2,hl ▸ h1,hw]
   exact ⟨fun h=>eqv_false (ne_at h1 h2 (fun e=>by rw [sEq_iff.2 e] at h; cases h)),fun h=>⟨(),by subst hJ; exact take_eq h1 h2 hj' (sEq_iff.1 h)⟩⟩
  ·have e : i=a.length:=by omega
   subst e
   rw [List.take_length,hl,List.take_length] at hj'
   simp [hl]
   exact eqv_true hj'
 ·have : a ≠ b:=fun h=>hl (by rw [h])
  have hl' : ¬ ((a.length : Int)=b.length):=by omega
  simp [hl',eqv_false this]
theorem c_kit_SameBools (a b : List Bool) : Ret prog M.F_kit_SameBools [.vec 1 false (a.map encBool),.vec 1 false (b.map encBool)] (.bool (eqv a b)):=by
 refine Ret.go hmix h_kit_SameBools (by simp) fun hb w0 F0 hG=>?_
 simp only [bndL,bndV,List.length_map,LIM,and_true] at hb
 by_cases hl : a.length=b.length
 ·simp [hl]
  obtain ⟨J,hJ⟩ : ∃ J : Nat→Unit→Prop,J=fun i _=>a.take i=b.take i:=⟨_,rfl⟩
  refine XLoop.cnt hmix a.length (fun i _=>⟨[(5,.int .i64 i),(0,.vec 1 false (a.map encBool)),(1,.vec 1 false (b.map encBool)),(4,.bool false)],[]⟩) J () (by simp [hJ]) (by simp) fun i _ hi hj=>?_
  have hw:=wrap64 (n:=(i : Int)+1) (by omega) (by omega)
  have hj' : a.take i=b.take i:=by subst hJ; exact hj
  by_cases h1 : i < a.length
  ·have h2 : i < b.length:=by omega
   simp [h1,h2,hl ▸ h1,hw]
   exact ⟨fun h=>eqv_false (ne_at h1 h2 h),fun h=>⟨(),by subst hJ; exact take_eq h1 h2 hj' h⟩⟩
  ·have e : i=a.length:=by omega
   subst e
   rw [List.take_length,hl,List.take_length] at hj'
   simp [hl]
   exact eqv_true hj'
 ·have : a ≠ b:=fun h=>hl (by rw [h])
  have hl' : ¬ ((a.length : Int)=b.length):=by omega
  simp [hl',eqv_false this]
theorem c_kit_SameSpans (a b : List Span) (hf : ∀ x ∈ a,∀ y ∈ b,Ret prog M.F_kit_SameSpan [.agg (encSpan x),.agg (encSpan y)] (.bool (eqv x y))) : Ret prog M.F_kit_SameSpans [.vec 2 false (a.map encSpan),.vec 2 false (b.map encSpan)] (.bool (eqv a b)):=by
 refine Ret.go hmix h_kit_SameSpans (by simp) fun hb w0 F0 hG=>?_
 simp only [bndL,bndV,List.length_map,LIM,and_true] at hb
 by_cases hl : a.length=b.length
 ·simp [hl]
  obtain ⟨J,hJ⟩ : ∃ J : Nat→Unit→Prop,J=fun i _=>a.take i=b.take i:=⟨_,rfl⟩
  refine XLoop.cnt hmix a.length (fun i _=>⟨[(5,.int .i64 i),(0,.vec 2 false (a.map encSpan)),(1,.vec 2 false (b.map encSpan)),(4,.bool false)],[]⟩) J () (by simp [hJ]) (by simp) fun i _ hi hj=>?_
  have hw:=wrap64 (n:=(i : Int)+1) (by omega) (by omega)
  have hj' : a.take i=b.take i:=by subst hJ; exact hj
  by_cases h1 : i < a.length
  ·have h2 : i < b.length:=by omega
   simp [h1,h2,hl ▸ h1,hw]
   intro v
   refine XDCall.ret (hf _ (List.getElem_mem h1) _ (List.getElem_mem h2)) ?_
   simp [h1,h2,hl ▸ h1,hw]
   exact ⟨fun h=>eqv_false (ne_at h1 h2 (fun e=>by rw [eqv_true e] at h; cases h)),fun h=>⟨(),by subst hJ; exact take_eq h1 h2 hj' (eqv_iff.1 h)⟩⟩
  ·have e : i=a.length:=by omega
   subst e
   rw [List.take_length,hl,List.take_length] at hj'
   simp [hl]
   exact eqv_true hj'
 ·have : a ≠ b:=fun h=>hl (by rw [h])
  have hl' : ¬ ((a.length : Int)=b.length):=by omega
  simp [hl',eqv_false this]
theorem c_kit_SameArrs (a b : List Arr) (hf : ∀ x ∈ a,∀ y ∈ b,Ret prog M.F_kit_SameArr [.agg (cA x),.agg (cA y)] (.bool (eqv x y))) : Ret prog M.F_kit_SameArrs [.vec 11 false (a.map encArr),.vec 11 false (b.map encArr)] (.bool (eqv a b)):=by
 refine Ret.go hmix h_kit_SameArrs (by simp) fun hb w0 F0 hG=>?_
 simp only [bndL,bndV,List.length_map,LIM,and_true] at hb
 by_cases hl : a.length=b.length
 ·simp [hl]
  obtain ⟨J,hJ⟩ : ∃ J : Nat→Unit→Prop,J=fun i _=>a.take i=b.take i:=⟨_,rfl⟩
  refine XLoop.cnt hmix a.length (fun i _=>⟨[(5,.int .i64 i),(0,.vec 11 false (a.map encArr)),(1,.vec 11 false (b.map encArr)),(4,.bool false)],[]⟩) J () (by simp [hJ]) (by simp) fun i _ hi hj=>?_
  have hw:=wrap64 (n:=(i : Int)+1) (by omega) (by omega)
  have hj' : a.take i=b.take i:=by subst hJ; exact hj
  by_cases h1 : i < a.length
  ·have h2 : i < b.length:=by omega
   simp [h1,h2,hl ▸ h1,hw]
   intro v
   refine XDCall.ret (hf _ (List.getElem_mem h1) _ (List.getElem_mem h2)) ?_
   simp [h1,h2,hl ▸ h1,hw]
   exact ⟨fun h=>eqv_false (ne_at h1 h2 (fun e=>by rw [eqv_true e] at h; cases h)),fun h=>⟨(),by subst hJ; exact take_eq h1 h2 hj' (eqv_iff.1 h)⟩⟩
  ·have e : i=a.length:=by omega
   subst e
   rw [List.take_length,hl,List.take_length] at hj'
   simp [hl]
   exact eqv_true hj'
 ·have : a ≠ b:=fun h=>hl (by rw [h])
  have hl' : ¬ ((a.length : Int)=b.length):=by omega
  simp [hl',eqv_false this]
theorem c_kit_SameObjs (a b : List Ob) (hf : ∀ x ∈ a,∀ y ∈ b,Ret prog M.F_kit_SameObj [.agg (cO x),.agg (cO y)] (.bool (eqv x y))) : Ret prog M.F_kit_SameObjs [.vec 12 false (a.map encObj),.vec 12 false (b.map encObj)] (.bool (eqv a b)):=by
 refine Ret.go hmix h_kit_SameObjs (by simp) fun hb w0 F0 hG=>?_
 simp only [bndL,bndV,List.length_map,LIM,and_true] at hb
 by_cases hl : a.length=b.length
 ·simp [hl]
  obtain ⟨J,hJ⟩ : ∃ J : Nat→Unit→Prop,J=fun i _=>a.take i=b.take i:=⟨_,rfl⟩
  refine XLoop.cnt hmix a.length (fun i _=>⟨[(5,.int .i64 i),(0,.vec 12 false (a.map encObj)),(1,.vec 12 false (b.map encObj)),(4,.bool false)],[]⟩) J () (by simp [hJ]) (by simp) fun i _ hi hj=>?_
  have hw:=wrap64 (n:=(i : Int)+1) (by omega) (by omega)
  have hj' : a.take i=b.take i:=by subst hJ; exact hj
  by_cases h1 : i < a.length
  ·have h2 : i < b.length:=by omega
   simp [h1,h2,hl ▸ h1,hw]
   intro v
   refine XDCall.ret (hf _ (List.getElem_mem h1) _ (List.getElem_mem h2)) ?_
   simp [h1,h2,hl ▸ h1,hw]
   exact ⟨fun h=>eqv_false (ne_at h1 h2 (fun e=>by rw [eqv_true e] at h; cases h)),fun h=>⟨(),by subst hJ; exact take_eq h1 h2 hj' (eqv_iff.1 h)⟩⟩
  ·have e : i=a.length:=by omega
   subst e
   rw [List.take_length,hl,List.take_length] at hj'
   simp [hl]
   exact eqv_true hj'
 ·have : a ≠ b:=fun h=>hl (by rw [h])
  have hl' : ¬ ((a.length : Int)=b.length):=by omega
  simp [hl',eqv_false this]
theorem c_kit_SameTypes (a b : List Ty) (hf : ∀ x ∈ a,∀ y ∈ b,Ret prog M.F_kit_SameType [.agg (cT x),.agg (cT y)] (.bool (eqv x y))) : Ret prog M.F_kit_SameTypes [.vec 9 false (a.map encTy),.vec 9 false (b.map encTy)] (.bool (eqv a b)):=by
 refine Ret.go hmix h_kit_SameTypes (by simp) fun hb w0 F0 hG=>?_
 simp only [bndL,bndV,List.length_map,LIM,and_true] at hb
 by_cases hl : a.length=b.length
 ·simp [hl]
  obtain ⟨J,hJ⟩ : ∃ J : Nat→Unit→Prop,J=fun i _=>a.take i=b.take i:=⟨_,rfl⟩
  refine XLoop.cnt hmix a.length (fun i _=>⟨[(5,.int .i64 i),(0,.vec 9 false (a.map encTy)),(1,.vec 9 false (b.map encTy)),(4,.bool false)],[]⟩) J () (by simp [hJ]) (by simp) fun i _ hi hj=>?_
  have hw:=wrap64 (n:=(i : Int)+1) (by omega) (by omega)
  have hj' : a.take i=b.take i:=by subst hJ; exact hj
  by_cases h1 : i < a.length
  ·have h2 : i < b.length:=by omega
   simp [h1,h2,hl ▸ h1,hw]
   intro v
   refine XDCall.ret (hf _ (List.getElem_mem h1) _ (List.getElem_mem h2)) ?_
   simp [h1,h2,hl ▸ h1,hw]
   exact ⟨fun h=>eqv_false (ne_at h1 h2 (fun e=>by rw [eqv_true e] at h; cases h)),fun h=>⟨(),by subst hJ; exact take_eq h1 h2 hj' (eqv_iff.1 h)⟩⟩
  ·have e : i=a.length:=by omega
   subst e
   rw [List.take_length,hl,List.take_length] at hj'
   simp [hl]
   exact eqv_true hj'
 ·have : a ≠ b:=fun h=>hl (by rw [h])
  have hl' : ¬ ((a.length : Int)=b.length):=by omega
  simp [hl',eqv_false this]
theorem c_kit_SameSpan (a b : Span) : Ret prog M.F_kit_SameSpan [.agg (encSpan a),.agg (encSpan b)] (.bool (eqv a b)):=by
 refine Ret.go hmix h_kit_SameSpan (by simp) fun hb w0 F0 hG=>?_
 obtain ⟨a1,a2⟩:=a
 obtain ⟨b1,b2⟩:=b
 by_cases hab : a1=b1∧a2=b2
 ·obtain ⟨rfl,rfl⟩:=hab
  rw [eqv_true rfl]
  simp [sEq_iff.2]
 ·rw [eqv_false (fun e=>hab (by cases e; exact ⟨rfl,rfl⟩))]
  cases h1 : sEq a1 b1
  ·simp [h1]
  ·cases h2 : sEq a2 b2
   ·simp [h1,h2]
   ·exact absurd ⟨sEq_iff.1 h1,sEq_iff.1 h2⟩ hab
theorem c_kit_SameArr (a b : Arr) (hf : Ret prog M.F_kit_SameType [.agg (cT a.item),.agg (cT b.item)] (.bool (eqv a.item b.item))) : Ret prog M.F_kit_SameArr [.agg (cA a),.agg (cA b)] (.bool (eqv a b)):=by
 refine Ret.go hmix h_kit_SameArr (by simp) fun hb w0 F0 hG=>?_
 by_cases hab : a=b
 ·subst hab
  rw [eqv_true rfl]
  rw [eqv_true rfl] at hf
  simp
  intros
  refine XCall.ret hf ?_
  simp
 ·rw [eqv_false hab]
  by_cases h1 : a.min=b.min
  ·by_cases h2 : a.max=b.max
   ·have h3 : a.item ≠ b.item:=fun h3=>hab (by rw [← a.eta,← b.eta,h1,h2,h3])
    rw [eqv_false h3] at hf
    simp [h1,h2]
    intros
    refine XCall.ret hf ?_
    simp
   ·simp [h1,h2]
  ·simp [h1]
theorem c_kit_SameObj (a b : Ob) (hf : ∀ x ∈ a.fields,∀ y ∈ b.fields,Ret prog M.F_kit_SameType [.agg (cT x),.agg (cT y)] (.bool (eqv x y))) (hr : Ret prog M.F_kit_SameType [.agg (cT a.rest),.agg (cT b.rest)] (.bool (eqv a.rest b.rest))) : Ret prog M.F_kit_SameObj [.agg (cO a),.agg (cO b)] (.bool (eqv a b)):=by
 refine Ret.go hmix h_kit_SameObj (by simp) fun hb w0 F0 hG=>?_
 simp
 intros
 refine XCall.ret (c_kit_SameStrings a.names b.names) ?_
 by_cases h1 : a.names=b.names
 ·simp [eqv_true h1]
  intros
  refine XCall.ret (c_kit_SameTypes a.fields b.fields hf) ?_
  by_cases h2 : a.fields=b.fields
  ·simp [eqv_true h2]
   intros
   refine XCall.ret (c_kit_SameBools a.must b.must) ?_
   by_cases h3 : a.must=b.must
   ·simp [eqv_true h3]
    intros
    refine XCall.ret hr ?_
    by_cases h4 : a.rest=b.rest
    ·rw [eqv_true (show a=b by rw [← a.eta,← b.eta,h1,h2,h3,h4])]
     simp [eqv_true h4]
    ·rw [eqv_false (fun e=>h4 (by rw [e]) : a ≠ b)]
     simp [eqv_false h4]
   ·rw [eqv_false (fun e=>h3 (by rw [e]) : a ≠ b)]
    simp [eqv_false h3]
  ·rw [eqv_false (fun e=>h2 (by rw [e]) : a ≠ b)]
   simp [eqv_false h2]
 ·rw [eqv_false (fun e=>h1 (by rw [e]) : a ≠ b)]
  simp [eqv_false h1]
theorem sz_item {t : Ty} {a : Arr} (h : a ∈ t.arrays) : SizeOf.sizeOf a.item < SizeOf.sizeOf t:=by
 obtain ⟨_,_,_,_,_,_,_,az,os⟩:=t
 have:=List.sizeOf_lt_of_mem h
 cases a
 simp [Arr.item,Ty.arrays] at *
 omega
theorem sz_field {t : Ty} {o : Ob} {f : Ty} (h : o ∈ t.objects) (hf : f ∈ o.fields) : SizeOf.sizeOf f < SizeOf.sizeOf t:=by
 obtain ⟨_,_,_,_,_,_,_,az,os⟩:=t
 have:=List.sizeOf_lt_of_mem h
 have:=List.sizeOf_lt_of_mem hf
 cases o
 simp [Ob.fields,Ty.objects] at *
 omega
theorem sz_rest {t : Ty} {o : Ob} (h : o ∈ t.objects) : SizeOf.sizeOf o.rest < SizeOf.sizeOf t:=by
 obtain ⟨_,_,_,_,_,_,_,az,os⟩:=t
 have:=List.sizeOf_lt_of_mem h
 cases o
 simp [Ob.rest,Ty.objects] at *
 omega
theorem c_kit_SameType (a : Ty) : ∀ b : Ty,Ret prog M.F_kit_SameType [.agg (cT a),.agg (cT b)] (.bool (eqv a b)):=by
 induction hn : SizeOf.sizeOf a using Nat.strongRecOn generalizing a with
 | _ n ih =>
 subst hn
 intro b
 refine Ret.go hmix h_kit_SameType (by simp) fun hb w0 F0 hG=>?_
 by_cases h1 : a.all=b.all∧a.null=b.null∧a.fls=b.fls∧a.tru=b.tru∧a.any=b.any
 ·obtain ⟨h1,h2,h3,h4,h5⟩:=h1
  simp [h1,h2,h3,h4,h5]
  intros
  refine XCall.ret (c_kit_SameSpans a.nums b.nums fun x _ y _=>c_kit_SameSpan x y) ?_
  by_cases k1 : a.nums=b.nums
  ·simp [eqv_true k1]
   intros
   refine XCall.ret (c_kit_SameStrings a.texts b.texts) ?_
   by_cases k2 : a.texts=b.texts
   ·simp [eqv_true k2]
    intros
    refine XCall.ret (c_kit_SameArrs a.arrays b.arrays fun x hx y _=>c_kit_SameArr x y (ih _ (sz_item hx) _ rfl _)) ?_
    by_cases k3 : a.arrays=b.arrays
    ·simp [eqv_true k3]
     intros
     refine XCall.ret (c_kit_SameObjs a.objects b.objects fun x hx y _=>c_kit_SameObj x y (fun u hu v _=>ih _ (sz_field hx hu) _ rfl _) (ih _ (sz_rest hx) _ rfl _)) ?_
     by_cases k4 : a.objects=b.objects
     ·rw [eqv_true (show a=b by rw [← a.eta,← b.eta,h1,h2,h3,h4,h5,k1,k2,k3,k4])]
      simp [eqv_true k4]
     ·rw [eqv_false (fun e=>k4 (by rw [e]) : a ≠ b)]
      simp [eqv_false k4]
    ·rw [eqv_false (fun e=>k3 (by rw [e]) : a ≠ b)]
     simp [eqv_false k3]
   ·rw [eqv_false (fun e=>k2 (by rw [e]) : a ≠ b)]
    simp [eqv_false k2]
  ·rw [eqv_false (fun e=>k1 (by rw [e]) : a ≠ b)]
   simp [eqv_false k1]
 ·have hne : a ≠ b:=fun e=>h1 (by rw [e]; simp)
  rw [eqv_false hne]
  by_cases k1 : a.all=b.all
  ·by_cases k2 : a.null=b.null
   ·by_cases k3 : a.fls=b.fls
    ·by_cases k4 : a.tru=b.tru
     ·have k5 : ¬ a.any=b.any:=fun k5=>h1 ⟨k1,k2,k3,k4,k5⟩
      simp [k1,k2,k3,k4,k5]
     ·simp [k1,k2,k3,k4]
    ·simp [k1,k2,k3]
   ·simp [k1,k2]
  ·simp [k1]
end Go.Proofs.YtbdogkmdanmojaaGreatDoor.Pv
set_option maxRecDepth 100000
namespace Go.Proofs.YtbdogkmdanmojaaGreatDoor.Pv
open Go Go.Tidy
def encInt (n : Int) : List PV:=[.int .i64 n]
attribute [simp] encInt
theorem sEq_emp (a : S) : sEq a ⟨#[]⟩=sEmp a:=by
 rw [Bool.eq_iff_iff,sEq_iff,sEmp_iff]; rfl
attribute [simp] sEq_emp
end Go.Proofs.YtbdogkmdanmojaaGreatDoor.Pv
namespace Go.Proofs.YtbdogkmdanmojaaGreatDoor.Pv
open Go Go.Tidy
theorem c_ref03_Number (s : S) : Ret prog M.F_ref03_Number [.str s] (.bool (numB s)):=by
 obtain ⟨l,rfl⟩ : ∃ l,s=bs l:=⟨_,(bs_toList s).symm⟩
 refine Ret.go hmix h_ref03_Number (by simp) fun hb w0 F0 hG=>?_
 simp only [bndL,bndV,bs_size,LIM,and_true] at hb
 simp
 refine XCut.one hmix ⟨[(0,.str (bs l)),(2,.bool false),(3,.str (bs (digs (bs l))))],[]⟩ ?_ ?_
 ·match l with
  | []=>simp +contextual [digs,neg]
  | c::m=>simp +contextual [digs,neg,bs_extract]; omega
 ·have hdl : (digs (bs l)).length≤l.length:=by unfold digs; split <;> simp
  have hnum : numB (bs l)=((digs (bs l)).all isDig&&!(digs (bs l)).isEmpty&&((digs (bs l)).head? != some 48||l == [48])):=by unfold numB; simp
  rw [hnum]
  generalize digs (bs l)=d at *
  obtain ⟨J,hJ⟩ : ∃ J : Nat→Unit→Prop,J=fun i _=>(d.take i).all isDig=true:=⟨_,rfl⟩
  simp
  refine XLoop.cnt hmix d.length (fun i _=>⟨[(4,.int .i64 i),(3,.str (bs d)),(0,.str (bs l)),(2,.bool false)],[]⟩) J () (by rw [hJ]; rfl) (by simp) fun i _ hi hj=>?_
  have hw:=wrap64 (n:=(i : Int)+1) (by omega) (by omega)
  by_cases h1 : i < d.length
  ·by_cases hd' : isDig d[i]=true
   ·obtain ⟨k1,k2⟩:=isDig_iff.1 hd'
    simp +contextual [h1,hw,k1,k2,UInt8.not_lt.2 k1,UInt8.not_lt.2 k2]
    refine ⟨(),?_⟩
    subst hJ
    show (d.take (i+1)).all isDig=true
    rw [take_all h1 hj]; exact hd'
   ·have k1 : d.all isDig=false:=all_false h1 (by simpa using hd')
    rw [k1,Bool.false_and,Bool.false_and]
    have k2 : 48≤d[i]→¬ d[i]≤57:=fun h h'=>hd' (isDig_iff.2 ⟨h,h'⟩)
    simp +contextual [h1,hw,k2]
  ·have : i=d.length:=by omega
   subst hJ
   have hj1 : (d.take i).all isDig=true:=hj
   simp only [this,List.take_length] at hj1
   simp only [hj1,Bool.true_and]
   subst this
   clear hnum hw h1 hj hj1 hi
   cases d with
   | nil=>simp
   | cons c m =>
     have hz : ¬ ((m.length : Int)+1=0):=by omega
     have hz' : ((m.length : Int)+1 == 0)=false:=by simpa using hz
     by_cases hc : c=48
     ·subst hc
      by_cases hl : l=[48]
      ·simp [sEq_lit,hz,hz',hl]
      ·simp [sEq_lit,hz,hz',hl]
     ·have hc' : ((c.toNat : Int) == 48)=false:=by simpa using hc
      simp [sEq_lit,hz,hz',hc,hc']
theorem c_ref03_Numbers (a b : S) (ha : numB a=true) (hb : numB b=true) : Ret prog M.F_ref03_Numbers [.str a,.str b] (.int .i64 (oInt (numCmp a b))):=by
 obtain ⟨l,rfl,hl⟩:=numB_pos ha
 obtain ⟨m,rfl,hm⟩:=numB_pos hb
 have dig0 : ∀ {x : List UInt8},numB (bs x)=true→0 < (digs (bs x)).length∧neg (bs (digs (bs x)))=false:=fun {x} h=>by
  simp only [numB,Bool.and_eq_true,Bool.not_eq_true',List.isEmpty_eq_false_iff,List.all_eq_true] at h
  refine ⟨List.length_pos_iff.2 h.1.2,?_⟩
  cases hd : digs (bs x) with
  | nil=>simp [neg]
  | cons c y =>
    have:=h.1.1 c (by rw [hd]; simp)
    have h48:=(isDig_iff.1 this).1
    simp only [neg,bs_data,List.head?_cons]
    rw [UInt8.le_iff_toNat_le] at h48
    simp only [beq_eq_false_iff_ne,ne_eq,Option.some.injEq]
    rintro rfl
    simp at h48
 have key : ∀ x y : List UInt8,0 < x.length→0 < y.length→neg (bs x)=false→neg (bs y)=false→Ret prog M.F_ref03_Numbers [.str (bs x),.str (bs y)] (.int .i64 (oInt (digCmp x y))):=fun x y hx hy nx ny=>by
  refine Ret.go hmix h_ref03_Numbers (by simp) fun hb w0 F0 hG=>?_
  match x,hx with
  | c::x,_ =>
    match y,hy with
    | d::y,_ =>
      simp [neg] at nx ny
      have nx' : ((c.toNat : Int) == 45)=false:=by simpa using nx
      have ny' : ((d.toNat : Int) == 45)=false:=by simpa using ny
      simp only [digCmp,List.length_cons]
      by_cases hl : x.length=y.length
      ·have hl' : ((x.length : Int)+1 == y.length+1)=true:=by simp [hl]
       simp [nx',ny',hl]
       repeat (refine ⟨by omega,?_⟩)
       refine XCall.ret (c_ref03_Texts _ _) ?_
       simp [sCmp_lex,lCmp_lex]
      ·have hl' : ((x.length : Int)+1 == y.length+1)=false:=by simp; omega
       rcases Nat.lt_or_gt_of_ne hl with h | h
       ·rw [cmpN_lt.2 (by omega)]
        have hi : ((x.length : Int) < y.length):=by omega
        simp [nx',ny',hl,hl',hi,Ordering.then]
        try omega
       ·rw [cmpN_gt.2 (by omega)]
        have hi : ¬ ((x.length : Int) < y.length):=by omega
        simp [nx',ny',hl,hl',hi,Ordering.then]
        try omega
 have n0 : ∀ {x : List UInt8},neg (bs x)=false→digs (bs x)=x:=fun {x} h=>by unfold digs; rw [h]; simp
 unfold numCmp
 cases ha' : neg (bs l) <;> cases hb' : neg (bs m) <;> simp only
 ·rw [n0 ha',n0 hb']; exact key l m hl hm ha' hb'
 all_goals
   obtain ⟨p1,p2⟩:=dig0 ha
   obtain ⟨q1,q2⟩:=dig0 hb
   rcases l with _ | ⟨c,x⟩
   ·simp at hl
   rcases m with _ | ⟨d,y⟩
   ·simp at hm
 ·refine Ret.go hmix h_ref03_Numbers (by simp) fun hbb w0 F0 hG=>?_
  simp [neg] at ha' hb'
  have hc1 : ((c.toNat : Int) == 45)=false:=by simpa using ha'
  subst hb'
  simp [hc1]; try omega
 ·refine Ret.go hmix h_ref03_Numbers (by simp) fun hbb w0 F0 hG=>?_
  simp [neg] at ha' hb'
  have hc1 : ((d.toNat : Int) == 45)=false:=by simpa using hb'
  subst ha'
  simp [hc1]; try omega
 ·simp only [digs,ha',hb',bs_data,List.tail_cons,if_true] at p1 p2 q1 q2 ⊢
  refine Ret.go hmix h_ref03_Numbers (by simp) fun hbb w0 F0 hG=>?_
  simp [neg] at ha' hb'
  subst ha'
  subst hb'
  simp [bs_extract]
  repeat (refine ⟨by omega,?_⟩)
  intro v
  repeat (refine ⟨by omega,?_⟩)
  refine XDCall.ret (key y x q1 p1 q2 p2) ?_
  simp
end Go.Proofs.YtbdogkmdanmojaaGreatDoor.Pv
set_option maxRecDepth 100000
namespace Go.Proofs.YtbdogkmdanmojaaGreatDoor.Pv
open Go Go.Tidy
end Go.Proofs.YtbdogkmdanmojaaGreatDoor.Pv
set_option maxRecDepth 100000
namespace Go.Proofs.YtbdogkmdanmojaaGreatDoor.Pv
open Go Go.Tidy
def Upto {α : Type} (g : α→α→Ordering) (r : Ordering) (a b : List α) (i : Nat) (p : Ordering) : Prop :=
 (p=.eq→r=.eq∧lexC g a b=lexC g (a.drop i) (b.drop i))∧(p ≠ .eq→p=r.then (lexC g a b))
theorem Upto.step {α : Type} {g : α→α→Ordering} {r : Ordering} {a b : List α} {i : Nat} (h : Upto g r a b i .eq) (h1 : i < a.length) (h2 : i < b.length) : Upto g r a b (i+1) (g a[i] b[i]):=by
 obtain ⟨hr,hl⟩:=h.1 rfl
 refine ⟨fun h=>⟨hr,by rw [hl,lex_step h1 h2,then_e h]⟩,fun h=>by rw [then_e hr,hl,lex_step h1 h2,then_ne h]⟩
end Go.Proofs.YtbdogkmdanmojaaGreatDoor.Pv
set_option maxRecDepth 100000
namespace Go.Proofs.YtbdogkmdanmojaaGreatDoor.Pv
open Go Go.Tidy
theorem u8_le {c d : UInt8} : ((c.toNat : Int)≤(d.toNat : Int))↔c≤d:=by rw [UInt8.le_iff_toNat_le]; omega
theorem u8_lt {c d : UInt8} : ((c.toNat : Int) < (d.toNat : Int))↔c < d:=by rw [UInt8.lt_iff_toNat_lt]; omega
@[simp] theorem u8_lt128 {c : UInt8} : ((c.toNat : Int) < 128)↔c < 128:=u8_lt (d:=128)
@[simp] theorem u8_gt191 {c : UInt8} : (191 < (c.toNat : Int))↔191 < c:=u8_lt (c:=191)
@[simp] theorem u8_e224 {c : UInt8} : ((c.toNat : Int)=224)↔c=224:=u8_eq 224
@[simp] theorem u8_e237 {c : UInt8} : ((c.toNat : Int)=237)↔c=237:=u8_eq 237
@[simp] theorem u8_e240 {c : UInt8} : ((c.toNat : Int)=240)↔c=240:=u8_eq 240
@[simp] theorem u8_e244 {c : UInt8} : ((c.toNat : Int)=244)↔c=244:=u8_eq 244
@[simp] theorem u8_ge194 {c : UInt8} : (194≤(c.toNat : Int))↔194≤c:=u8_le (c:=194)
@[simp] theorem u8_ge224 {c : UInt8} : (224≤(c.toNat : Int))↔224≤c:=u8_le (c:=224)
@[simp] theorem u8_ge240 {c : UInt8} : (240≤(c.toNat : Int))↔240≤c:=u8_le (c:=240)
@[simp] theorem u8_le223 {c : UInt8} : ((c.toNat : Int)≤223)↔c≤223:=u8_le (d:=223)
@[simp] theorem u8_le239 {c : UInt8} : ((c.toNat : Int)≤239)↔c≤239:=u8_le (d:=239)
@[simp] theorem u8_le244 {c : UInt8} : ((c.toNat : Int)≤244)↔c≤244:=u8_le (d:=244)
theorem trail_fail {l : List UInt8} {i n k : Nat} {lo hi : UInt8} (hk : k < n) (h : i+k < l.length) (hc : ¬ (128≤l[i+k]∧l[i+k]≤191)) : trail (l.drop i) n lo hi=false:=by
 have : ((l.drop i).take n).all (fun c=>128≤c&&c≤191)=false:=by
  rw [List.all_eq_false]
  refine ⟨l[i+k],?_,by simpa using hc⟩
  rw [List.mem_iff_getElem?]
  exact ⟨k,by rw [List.getElem?_take_of_lt hk,List.getElem?_drop,List.getElem?_eq_getElem h]⟩
 simp [trail,this]
theorem c_ref03_trail (l : List UInt8) (i n : Nat) (lo hi : UInt8) (hn : 1≤n) (hn' : n≤3) (hi' : i≤l.length) : Ret prog M.F_ref03_trail [.str (bs l),.int .i64 i,.int .i64 n,.int .u8 lo.toNat,.int .u8 hi.toNat] (.bool (trail (l.drop i) n lo hi)):=by
 refine Ret.go hmix h_ref03_trail (by simp) fun hb w0 F0 hG=>?_
 simp only [bndL,bndV,bs_size,LIM,and_true] at hb
 have w1:=wrap64 (n:=(i : Int)+n) (by omega) (by omega)
 by_cases h : i+n≤l.length
 ·have h' : ¬ ((l.length : Int) < (i : Int)+n):=by omega
  simp [w1,h']
  obtain ⟨J,hJ⟩ : ∃ J : Nat→Unit→Prop,J=fun k _=>((l.drop i).take k).all (fun c=>128≤c&&c≤191)=true:=⟨_,rfl⟩
  refine XLoop.cnt hmix n (fun k _=>⟨[(11,.int .i64 k),(0,.str (bs l)),(1,.int .i64 i),(2,.int .i64 n),(3,.int .u8 lo.toNat),(4,.int .u8 hi.toNat)],[]⟩) J () (by simp [hJ]) (by simp) fun k _ hk hj=>?_
  have hw:=wrap64 (n:=(k : Int)+1) (by omega) (by omega)
  have hw2:=wrap64 (n:=(i : Int)+k) (by omega) (by omega)
  have hj' : ((l.drop i).take k).all (fun c=>128≤c&&c≤191)=true:=by subst hJ; exact hj
  have e0 : ((i : Int)+(k : Int)).toNat=i+k:=by omega
  by_cases h1 : k < n
  ·have h2 : i+k < l.length:=by omega
   have h3 : (i : Int)+k < l.length:=by omega
   have h4 : (0 : Int)≤(i : Int)+k:=by omega
   by_cases hc : 128≤l[i+k]∧l[i+k]≤191
   ·have k1 : ¬ l[i+k] < 128:=UInt8.not_lt.2 hc.1
    have k2 : ¬ 191 < l[i+k]:=UInt8.not_lt.2 hc.2
    simp [h1,hw,hw2,e0,h2,h3,h4,k1,k2]
    refine ⟨(),?_⟩
    subst hJ
    show ((l.drop i).take (k+1)).all _=true
    rw [take_all (by simp; omega) hj']
    simpa using hc
   ·rw [trail_fail h1 h2 hc]
    have k12 : l[i+k] < 128∨191 < l[i+k]:=by
     rcases UInt8.lt_or_le l[i+k] 128 with k1 | k1
     ·exact .inl k1
     ·rcases UInt8.lt_or_le 191 l[i+k] with k2 | k2
      ·exact .inr k2
      ·exact absurd ⟨k1,k2⟩ hc
    rcases k12 with k1 | k1
    ·simp [h1,hw,hw2,e0,h2,h3,h4,k1]
    ·by_cases k2 : l[i+k] < 128
     ·simp [h1,hw,hw2,e0,h2,h3,h4,k2]
     ·simp [h1,hw,hw2,e0,h2,h3,h4,k1,k2]
  ·have : k=n:=by omega
   subst this
   have hil : i < l.length:=by omega
   have e : trail (l.drop i) k lo hi=(decide (lo≤l[i])&&decide (l[i]≤hi)):=by
    unfold trail
    rw [hj',List.drop_eq_getElem_cons hil]
    have : k≤(l[i]::l.drop (i+1)).length:=by simp; omega
    rw [decide_eq_true this]; rfl
   rw [e]
   by_cases k1 : lo≤l[i]
   ·have k1' : lo.toNat≤l[i].toNat:=UInt8.le_iff_toNat_le.1 k1
    have k2 : decide (l[i].toNat≤hi.toNat)=decide (l[i]≤hi):=by simp [UInt8.le_iff_toNat_le]
    simp [hil,k1,k1',k2]
   ·have k1' : ¬ lo.toNat≤l[i].toNat:=fun h=>k1 (UInt8.le_iff_toNat_le.2 h)
    simp [hil,k1,k1']
 ·have h' : ((l.length : Int) < (i : Int)+n):=by omega
  have e : trail (l.drop i) n lo hi=false:=by
   have : ¬ n≤l.length - i:=by omega
   simp [trail,this]
  rw [e]
  simp [w1,h']
theorem trail_len {l : List UInt8} {n : Nat} {lo hi : UInt8} (h : trail l n lo hi=true) : n≤l.length:=by
 simp [trail] at h; exact h.1.1
theorem width_len (l : List UInt8) : width l≤l.length:=by
 cases l with
 | nil=>simp [width]
 | cons c l =>
   simp only [width]
   repeat' split
   all_goals first
     | (simp; done)
     | (rename_i h; simp only [Bool.and_eq_true] at h; have:=trail_len h.2; simp; omega)
theorem width_end {w0 : World} {F0 : Nat→Prop} {hG : GOk prog w0 F0} (l : List UInt8) (i c lo hi : Nat) (T : Nat→Bool) (w1' : IntKind.i64.wrap ((i : Int)+1)=((i+1 : Nat) : Int))
 (tr : ∀ n : Nat,1≤n→n≤3→Ret prog M.F_ref03_trail [.str (bs l),.int .i64 ((i+1 : Nat) : Int),.int .i64 n,.int .u8 lo,.int .u8 hi] (.bool (T n))) (W : Nat)
 (hW : W=if 224≤c∧c≤239∧T 2=true then 3 else if 240≤c∧c≤244∧T 3=true then 4 else 0) :
 XC ⟨prog,w0,F0,61,[],0,hG⟩ M.t_ref03_width_0 ⟨[(5,.int .u8 c),(6,.int .u8 lo),(7,.int .u8 hi),(0,.str (bs l)),(1,.int .i64 i)],[]⟩ [] (retIs M.rs_ref03_width (.int .i64 W)):=by
 by_cases g1 : 224≤c
 ·have g1' : (224 : Int)≤c:=by omega
  by_cases g2 : c≤239
  ·have g2' : (c : Int)≤239:=by omega
   have n1 : ¬ 240≤c:=by omega
   have n1' : ¬ (240 : Int)≤c:=by omega
   simp [g1',g2',n1',w1']
   refine XCall.ret (tr 2 (by omega) (by omega)) ?_
   cases ht : T 2
   ·simp [n1',hW,n1,ht]
   ·simp [hW,g1,g2,ht]
  ·have g2' : ¬ (c : Int)≤239:=by omega
   have g3 : 240≤c:=by omega
   have g3' : (240 : Int)≤c:=by omega
   by_cases g4 : c≤244
   ·have g4' : (c : Int)≤244:=by omega
    simp [g1',g2',g3',g4',w1']
    refine XCall.ret (tr 3 (by omega) (by omega)) ?_
    cases ht : T 3 <;> simp [hW,g2,g3,g4,ht]
   ·have g4' : ¬ (c : Int)≤244:=by omega
    simp [g1',g2',g3',g4',hW,g2,g3,g4]
 ·have g1' : ¬ (224 : Int)≤c:=by omega
  have n1 : ¬ 240≤c:=by omega
  have n1' : ¬ (240 : Int)≤c:=by omega
  simp [g1',n1',hW,n1,g1]
theorem width_tail {w0 : World} {F0 : Nat→Prop} {hG : GOk prog w0 F0} (l d : List UInt8) (i : Nat) (c : UInt8) (w1' : IntKind.i64.wrap ((i : Int)+1)=((i+1 : Nat) : Int))
 (tr : ∀ (n : Nat) (lo hi : UInt8),1≤n→n≤3→Ret prog M.F_ref03_trail [.str (bs l),.int .i64 ((i+1 : Nat) : Int),.int .i64 n,.int .u8 lo.toNat,.int .u8 hi.toNat] (.bool (trail d n lo hi))) (s : List (Nat × PV))
 (e5 : lk 5 s=.int .u8 c.toNat) (e6 : lk 6 s=.int .u8 128) (e7 : lk 7 s=.int .u8 191) (e0 : lk 0 s=.str (bs l)) (e1 : lk 1 s=.int .i64 i) :
 XCut ⟨prog,w0,F0,61,[],0,hG⟩ M.c_ref03_width_0 ⟨s,[]⟩ [.sq M.t_ref03_width_3] (retIs M.rs_ref03_width (.int .i64 (if 224≤c&&c≤239&&trail d 2 (if c == 224 then 160 else 128) (if c == 237 then 159 else 191) then 3 else if 240≤c&&c≤244&&trail d 3 (if c == 240 then 144 else 128) (if c == 244 then 143 else 191) then 4 else 0 : Nat))):=by
 refine XCut.one hmix ⟨[(5,.int .u8 c.toNat),(6,.int .u8 ((if c=224 then 160 else 128 : UInt8).toNat : Int)),(7,.int .u8 ((191 : UInt8).toNat : Int)),(0,.str (bs l)),(1,.int .i64 i)],[]⟩ ?_ ?_
 ·by_cases h : c=224 <;> simp [e5,e6,e7,e0,e1,h]
 simp
 refine XCut.one hmix ⟨[(5,.int .u8 c.toNat),(6,.int .u8 ((if c=224 then 160 else 128 : UInt8).toNat : Int)),(7,.int .u8 ((if c=237 then 159 else 191 : UInt8).toNat : Int)),(0,.str (bs l)),(1,.int .i64 i)],[]⟩ ?_ ?_
 ·by_cases h : c=237 <;> simp [h]
 simp
 refine XCut.one hmix ⟨[(5,.int .u8 c.toNat),(6,.int .u8 ((if c=240 then 144 else (if c=224 then 160 else 128) : UInt8).toNat : Int)),(7,.int .u8 ((if c=237 then 159 else 191 : UInt8).toNat : Int)),(0,.str (bs l)),(1,.int .i64 i)],[]⟩ ?_ ?_
 ·by_cases h : c=240 <;> simp [h]
 simp
 refine XCut.one hmix ⟨[(5,.int .u8 c.toNat),(6,.int .u8 ((if c=240 then 144 else (if c=224 then 160 else 128) : UInt8).toNat : Int)),(7,.int .u8 ((if c=244 then 143 else (if c=237 then 159 else 191) : UInt8).toNat : Int)),(0,.str (bs l)),(1,.int .i64 i)],[]⟩ ?_ ?_
 ·by_cases h : c=244 <;> simp [h]
 rw [XE_sq]
 refine width_end l i c.toNat _ _ (fun n=>trail d n (if c=240 then 144 else (if c=224 then 160 else 128)) (if c=244 then 143 else (if c=237 then 159 else 191))) w1' (fun n h1 h2=>tr n _ _ h1 h2) _ ?_
 have q1 : (224≤c)=(224≤c.toNat):=by rw [UInt8.le_iff_toNat_le]; rfl
 have q2 : (c≤239)=(c.toNat≤239):=by rw [UInt8.le_iff_toNat_le]; rfl
 have q3 : (240≤c)=(240≤c.toNat):=by rw [UInt8.le_iff_toNat_le]; rfl
 have q4 : (c≤244)=(c.toNat≤244):=by rw [UInt8.le_iff_toNat_le]; rfl
 simp only [q1,q2,q3,q4,Bool.and_eq_true,decide_eq_true_eq,beq_iff_eq,and_assoc]
 by_cases g1 : c.toNat≤239
 ·have n1 : ¬ 240≤c.toNat:=by omega
  have n2 : ¬ c=240:=fun e=>n1 (by rw [e]; decide)
  have n3 : ¬ c=244:=fun e=>n1 (by rw [e]; decide)
  simp [n1,n2,n3]
 ·have n2 : ¬ c=224:=fun e=>g1 (by rw [e]; decide)
  have n3 : ¬ c=237:=fun e=>g1 (by rw [e]; decide)
  simp [g1,n2,n3]
theorem c_ref03_width (l : List UInt8) (i : Nat) (hi : i < l.length) : Ret prog M.F_ref03_width [.str (bs l),.int .i64 i] (.int .i64 (width (l.drop i))):=by
 refine Ret.go hmix h_ref03_width (by simp) fun hb w0 F0 hG=>?_
 simp only [bndL,bndV,bs_size,LIM,and_true] at hb
 have w1:=wrap64 (n:=(i : Int)+1) (by omega) (by omega)
 have w1' : IntKind.i64.wrap ((i : Int)+1)=((i+1 : Nat) : Int):=by rw [w1]; omega
 have e0 : l.drop i=l[i]::l.drop (i+1):=List.drop_eq_getElem_cons hi
 have tr : ∀ (n : Nat) (lo hi : UInt8),1≤n→n≤3→Ret prog M.F_ref03_trail [.str (bs l),.int .i64 ((i+1 : Nat) : Int),.int .i64 n,.int .u8 lo.toNat,.int .u8 hi.toNat] (.bool (trail (l.drop (i+1)) n lo hi)):=fun n lo hi' h1 h2=>c_ref03_trail l (i+1) n lo hi' h1 h2 (by omega)
 rw [e0]
 generalize hc : l[i]=c
 generalize hd : l.drop (i+1)=d at *
 by_cases h1 : c < 128
 ·simp [hi,hc,h1,width]
 ·have hw : width (c::d)=if 194≤c&&c≤223&&trail d 1 128 191 then 2 else (if 224≤c&&c≤239&&trail d 2 (if c == 224 then 160 else 128) (if c == 237 then 159 else 191) then 3 else if 240≤c&&c≤244&&trail d 3 (if c == 240 then 144 else 128) (if c == 244 then 143 else 191) then 4 else 0):=by
     simp only [width]; rw [if_neg h1]
  rw [hw]
  generalize hW : (if 224≤c&&c≤239&&trail d 2 (if c == 224 then 160 else 128) (if c == 237 then 159 else 191) then 3 else if 240≤c&&c≤244&&trail d 3 (if c == 240 then 144 else 128) (if c == 244 then 143 else 191) then 4 else 0)=W
  have tail:=width_tail (w0:=w0) (F0:=F0) (hG:=hG) l d i c w1' tr
  rw [hW] at tail
  by_cases h2 : 194≤c
  ·by_cases h3 : c≤223
   ·simp [hi,hc,h1,h2,h3,w1']
    refine XCall.ret (tr 1 128 191 (by omega) (by omega)) ?_
    cases ht : trail d 1 128 191
    ·simp
     exact tail _ (by simp) (by simp) (by simp) (by simp) (by simp)
    ·simp
   ·simp [hi,hc,h1,h2,h3]
    exact tail _ (by simp) (by simp) (by simp) (by simp) (by simp)
  ·simp [hi,hc,h1,h2]
   exact tail _ (by simp) (by simp) (by simp) (by simp) (by simp)
end Go.Proofs.YtbdogkmdanmojaaGreatDoor.Pv
set_option maxRecDepth 100000
namespace Go.Proofs.YtbdogkmdanmojaaGreatDoor.Pv
open Go Go.Tidy
theorem utfL_nil (n : Nat) : utfL n []=true:=by cases n <;> simp [utfL]
theorem utfL_fuel : ∀ (n m : Nat) (l : List UInt8),l.length≤n→l.length≤m→utfL n l=utfL m l
 | _,_,[],_,_=>by rw [utfL_nil,utfL_nil]
 | 0,_,c::l,h,_=>by simp at h
 | _,0,c::l,_,h=>by simp at h
 | n+1,m+1,c::l,h,h'=>by
   simp only [utfL]
   by_cases hw : width (c::l)=0
   ·simp [hw]
   ·have h1:=width_len (c::l)
    have : utfL n ((c::l).drop (width (c::l)))=utfL m ((c::l).drop (width (c::l))):=by
     apply utfL_fuel
     ·simp only [List.length_drop] at *; omega
     ·simp only [List.length_drop] at *; omega
    rw [this]
theorem utfL_step {l : List UInt8} (hl : l ≠ []) : utfL l.length l=(width l != 0&&utfL (l.drop (width l)).length (l.drop (width l))):=by
 cases l with
 | nil=>exact absurd rfl hl
 | cons c l =>
   show utfL (l.length+1) (c::l)=_
   simp only [utfL,List.isEmpty_cons,Bool.false_or]
   by_cases hw : width (c::l)=0
   ·simp [hw]
   ·congr 1
    exact utfL_fuel _ _ _ (by simp only [List.length_drop,List.length_cons]; omega) (Nat.le_refl _)
theorem c_ref03_UTF (a : S) : Ret prog M.F_ref03_UTF [.str a] (.bool (utfB a)):=by
 obtain ⟨l,rfl⟩ : ∃ l,a=bs l:=⟨a.data.toList,by simp [bs]⟩
 refine Ret.go hmix h_ref03_UTF (by simp) fun hb w0 F0 hG=>?_
 simp only [bndL,bndV,bs_size,LIM,and_true] at hb
 have e : utfB (bs l)=utfL l.length l:=by simp [utfB,bs]
 rw [e]
 simp
 obtain ⟨J,hJ⟩ : ∃ J : Nat→Prop,J=fun i=>i≤l.length∧utfL l.length l=utfL (l.drop i).length (l.drop i):=⟨_,rfl⟩
 refine XLoop.go hmix (fun i : Nat=>⟨[(3,.int .i64 i),(0,.str (bs l))],[]⟩) J (fun i=>l.length - i) 0 (by simp [hJ]) (by simp) fun i hj=>?_
 obtain ⟨hi,hj'⟩ : i≤l.length∧utfL l.length l=utfL (l.drop i).length (l.drop i):=by rw [hJ] at hj; exact hj
 by_cases h1 : i < l.length
 ·have hne : l.drop i ≠ []:=by simp; omega
  simp [h1]
  refine XCall.ret (c_ref03_width l i h1) ?_
  have hwl:=width_len (l.drop i)
  simp only [List.length_drop] at hwl
  rw [utfL_step hne] at hj'
  by_cases hw : width (l.drop i)=0
  ·simp [hw,hj']
  ·have w1:=wrap64 (n:=(i : Int)+width (l.drop i)) (by omega) (by omega)
   have e1 : ((i : Int)+(width (l.drop i) : Int))=((i+width (l.drop i) : Nat) : Int):=by omega
   simp [hw,w1]
   refine ⟨i+width (l.drop i),?_,by omega,by omega⟩
   rw [hJ]
   refine ⟨by omega,?_⟩
   rw [hj']
   simp [hw,Nat.add_comm]
 ·have : l.drop i=[]:=by simp; omega
  simp [h1,hj',this,utfL_nil]
theorem riseB_at {l : List S} {i : Nat} (hi : i < l.length) : riseB l=true→utfB l[i]=true∧∀ h : 0 < i,sLt (l[i - 1]'(by omega)) l[i]=true:=by
 intro h
 induction l generalizing i with
 | nil=>simp at hi
 | cons a l ih =>
   cases l with
   | nil =>
     have : i=0:=by simp at hi; exact hi
     subst this; simp [riseB] at h; simp [h]
   | cons b l =>
     simp [riseB] at h
     cases i with
     | zero=>exact ⟨h.1.1,fun h'=>absurd h' (by omega)⟩
     | succ i =>
       have:=ih (i:=i) (by simpa using hi) h.2
       refine ⟨this.1,fun _=>?_⟩
       cases i with
       | zero=>exact h.1.2
       | succ j=>exact this.2 (by omega)
theorem riseB_of {l : List S} (h : ∀ i (hi : i < l.length),utfB l[i]=true∧∀ h : 0 < i,sLt (l[i - 1]'(by omega)) l[i]=true) : riseB l=true:=by
 induction l with
 | nil=>rfl
 | cons a l ih =>
   cases l with
   | nil=>simpa [riseB] using (h 0 (by simp)).1
   | cons b l =>
     simp only [riseB,Bool.and_eq_true]
     refine ⟨⟨(h 0 (by simp)).1,(h 1 (by simp)).2 (by omega)⟩,ih fun i hi=>?_⟩
     have:=h (i+1) (by simpa using hi)
     refine ⟨this.1,fun h'=>?_⟩
     have h2:=this.2 (by omega)
     cases i with
     | zero=>omega
     | succ j=>exact h2
def RiseTo (l : List S) (i : Nat) : Prop:=∀ j (hj : j < l.length),j < i→utfB l[j]=true∧∀ h : 0 < j,sLt (l[j - 1]'(by omega)) l[j]=true
theorem RiseTo.step {l : List S} {i : Nat} (h : RiseTo l i) (hi : i < l.length) (h1 : utfB l[i]=true) (h2 : ∀ h : 0 < i,sLt (l[i - 1]'(by omega)) l[i]=true) : RiseTo l (i+1):=by
 intro j hj hlt
 by_cases e : j=i
 ·subst e; exact ⟨h1,h2⟩
 ·exact h j hj (by omega)
theorem c_ref03_Rise (l : List S) : Ret prog M.F_ref03_Rise [.vec 1 false (l.map encStr)] (.bool (riseB l)):=by
 refine Ret.go hmix h_ref03_Rise (by simp) fun hb w0 F0 hG=>?_
 simp only [bndL,bndV,List.length_map,LIM,and_true] at hb
 simp
 obtain ⟨J,hJ⟩ : ∃ J : Nat→Unit→Prop,J=fun k _=>RiseTo l k:=⟨_,rfl⟩
 refine XLoop.cnt hmix l.length (fun k _=>⟨[(3,.int .i64 k),(0,.vec 1 false (l.map encStr))],[]⟩) J () (by rw [hJ]; intro j _ h; omega) (by simp) fun k _ hk hj=>?_
 have hw:=wrap64 (n:=(k : Int)+1) (by omega) (by omega)
 have hj' : RiseTo l k:=by rw [hJ] at hj; exact hj
 by_cases h1 : k < l.length
 ·simp [h1,hw]
  refine XCall.ret (c_ref03_UTF l[k]) ?_
  by_cases hu : utfB l[k]=true
  ·by_cases h0 : 0 < k
   ·have w1:=wrap64 (n:=(k : Int) - 1) (by omega) (by omega)
    have e1 : ((k : Int) - 1).toNat=k - 1:=by omega
    have e2 : (0 : Int)≤(k : Int) - 1:=by omega
    have e3 : k - 1 < l.length:=by omega
    have e4 : (k : Int) - 1 < l.length:=by omega
    have e5 : (1 : Int)≤k:=by omega
    by_cases hs : sLt l[k - 1] l[k]=true
    ·have hs':=hs
     simp [hu,h0,w1,e1,e2,e3,e4,e5,h1,hs,hw]
     refine ⟨(),?_⟩
     rw [hJ]
     exact hj'.step h1 hu fun _=>hs
    ·have : riseB l=false:=by
        cases hr : riseB l with
        | false=>rfl
        | true=>exact absurd ((riseB_at h1 hr).2 h0) hs
     simp [hu,h0,w1,e1,e2,e3,e4,e5,h1,hs,this]
   ·have h0' : k=0:=by omega
    subst h0'
    have w0' : IntKind.i64.wrap 1=1:=wrap64 (by omega) (by omega)
    simp [hu,h1,w0']
    refine ⟨(),?_⟩
    rw [hJ]
    exact hj'.step h1 hu fun h=>absurd h (by omega)
  ·have : riseB l=false:=by
      cases hr : riseB l with
      | false=>rfl
      | true=>exact absurd (riseB_at h1 hr).1 hu
   simp [hu,this]
 ·have : riseB l=true:=riseB_of fun i hi=>hj' i hi (by omega)
  simp [h1,this]
end Go.Proofs.YtbdogkmdanmojaaGreatDoor.Pv
set_option maxRecDepth 100000
namespace Go.Proofs.YtbdogkmdanmojaaGreatDoor.Pv
open Go Go.Tidy
theorem len0b {α : Type} (l : List α) : (((l.length : Nat) : Int) == 0)=l.isEmpty:=by cases l <;> simp <;> omega
theorem decNil {α : Type} (l : List α) [Decidable (l=[])] : decide (l=[])=l.isEmpty:=by cases l <;> simp
theorem c_ref09_Bare (t : Ty) : Ret prog M.F_ref09_Bare [.agg (cT t)] (.bool (bare t)):=by
 refine Ret.go hmix h_ref09_Bare (by simp) fun hb w0 F0 hG=>?_
 simp [bare,len0b,decNil]
theorem c_ref09_Never (t : Ty) : Ret prog M.F_ref09_Never [.agg (cT t)] (.bool (never t)):=by
 refine Ret.go hmix h_ref09_Never (by simp) fun hb w0 F0 hG=>?_
 unfold never
 cases h : t.all
 ·simp [h]
  intro v
  refine XCall.ret (by have:=c_ref09_Bare t; unfold cT at this; rw [h] at this; exact this) ?_
  simp
 ·simp [h]
theorem c_ref09_bound (s : S) : Ret prog M.F_ref09_bound [.str s] (.bool (boundB s)):=by
 refine Ret.go hmix h_ref09_bound (by simp) fun hb w0 F0 hG=>?_
 unfold boundB
 cases h : sEmp s
 ·simp [h]
  refine XCall.ret (c_ref03_Number s) ?_
  simp
 ·simp [h]
def AllTo {α : Type} (p : α→Bool) (l : List α) (k : Nat) : Prop:=∀ j (hj : j < l.length),j < k→p l[j]=true
theorem AllTo.zero {α : Type} {p : α→Bool} {l : List α} : AllTo p l 0:=fun _ _ h=>absurd h (by omega)
theorem AllTo.step {α : Type} {p : α→Bool} {l : List α} {k : Nat} (h : AllTo p l k) (hk : k < l.length) (hp : p l[k]=true) : AllTo p l (k+1):=fun j hj hlt=>by
 by_cases e : j=k
 ·subst e; exact hp
 ·exact h j hj (by omega)
theorem AllTo.all {α : Type} {p : α→Bool} {l : List α} {k : Nat} (h : AllTo p l k) (hk : ¬ k < l.length) : l.all p=true:=by
 rw [List.all_eq_true]
 intro x hx
 obtain ⟨j,hj,rfl⟩:=List.getElem_of_mem hx
 exact h j hj (by omega)
theorem all_not {α : Type} {p : α→Bool} {l : List α} {k : Nat} (hk : k < l.length) (h : p l[k]=false) : l.all p=false:=by
 rw [List.all_eq_false]
 exact ⟨l[k],List.getElem_mem hk,by simp [h]⟩
set_option maxHeartbeats 4000000 in
theorem c_ref09_Spans (l : List Span) : Ret prog M.F_ref09_Spans [.vec 2 false (l.map encSpan)] (.bool (decide (l.length≤1)&&l.all spanB)):=by
 refine Ret.go hmix h_ref09_Spans (by simp) fun hb w0 F0 hG=>?_
 simp only [bndL,bndV,List.length_map,LIM,and_true] at hb
 by_cases h0 : l.length≤1
 ·have h0' : ¬ (1 : Int) < l.length:=by omega
  generalize hB : l.all spanB=B
  obtain ⟨J,hJ⟩ : ∃ J : Nat→Unit→Prop,J=fun k _=>AllTo spanB l k:=⟨_,rfl⟩
  simp [h0,h0']
  refine XLoop.cnt hmix l.length (fun k _=>⟨[(3,.int .i64 k),(0,.vec 2 false (l.map encSpan))],[]⟩) J () (by rw [hJ]; exact .zero) (by simp) fun k _ hk hj=>?_
  have hw:=wrap64 (n:=(k : Int)+1) (by omega) (by omega)
  have hj' : AllTo spanB l k:=by rw [hJ] at hj; exact hj
  by_cases h1 : k < l.length
  ·have no : spanB l[k]=false→B=false:=fun h=>hB ▸ all_not h1 h
   have hs : spanB l[k]=(boundB l[k].low&&boundB l[k].high&&(sEmp l[k].low||sEmp l[k].high||(numCmp l[k].low l[k].high).isLE)):=rfl
   simp [h1,hw]
   refine XCall.ret (c_ref09_bound l[k].low) ?_
   cases b1 : boundB l[k].low
   ·rw [b1] at hs
    simp [no (by rw [hs]; rfl)]
   ·simp [h1]
    refine XCall.ret (c_ref09_bound l[k].high) ?_
    cases b2 : boundB l[k].high
    ·rw [b1,b2] at hs
     simp [no (by rw [hs]; rfl)]
    ·rw [b1,b2] at hs
     cases e1 : sEmp l[k].low
     ·cases e2 : sEmp l[k].high
      ·simp (maxSteps:=10000000) [h1,hw,e1,e2]
       intros
       refine XDCall.ret (c_ref03_Numbers _ _ (by simpa [boundB,e1] using b1) (by simpa [boundB,e2] using b2)) ?_
       rw [e1,e2] at hs
       cases hc : numCmp l[k].low l[k].high with
       | gt =>
         rw [hc] at hs
         simp [oInt,no (by rw [hs]; rfl)]
       | lt =>
         rw [hc] at hs
         simp [oInt,hw]
         first | refine ⟨(),?_⟩ | refine ⟨h1,(),?_⟩
         rw [hJ]; exact hj'.step h1 (by rw [hs]; rfl)
       | eq =>
         rw [hc] at hs
         simp [oInt,hw]
         first | refine ⟨(),?_⟩ | refine ⟨h1,(),?_⟩
         rw [hJ]; exact hj'.step h1 (by rw [hs]; rfl)
      ·simp (maxSteps:=10000000) [h1,hw,e1,e2]
       first | refine ⟨(),?_⟩ | refine ⟨h1,(),?_⟩
       rw [hJ]; exact hj'.step h1 (by rw [hs,e1,e2]; rfl)
     ·simp (maxSteps:=10000000) [h1,hw,e1]
      first | refine ⟨(),?_⟩ | refine ⟨h1,(),?_⟩
      rw [hJ]; exact hj'.step h1 (by rw [hs,e1]; rfl)
  ·simp [h1,← hB,hj'.all h1]
 ·have h0' : (1 : Int) < l.length:=by omega
  simp [h0,h0']
end Go.Proofs.YtbdogkmdanmojaaGreatDoor.Pv
set_option maxRecDepth 100000
namespace Go.Proofs.YtbdogkmdanmojaaGreatDoor.Pv
open Go Go.Tidy
set_option maxHeartbeats 4000000 in
theorem formed_arrays (l : List Arr) (ih : ∀ a ∈ l,Ret prog M.F_ref09_Formed [.agg (cT a.item)] (.bool (formedT a.item))) : Ret prog M.F_ref09_arrays [.vec 11 false (l.map encArr)] (.bool (decide (l.length≤1)&&l.all formedA)):=by
 refine Ret.go hmix h_ref09_arrays (by simp) fun hb w0 F0 hG=>?_
 simp only [bndL,bndV,List.length_map,LIM,and_true] at hb
 by_cases h0 : l.length≤1
 ·have h0' : ¬ (1 : Int) < l.length:=by omega
  generalize hB : l.all formedA=B
  obtain ⟨J,hJ⟩ : ∃ J : Nat→Unit→Prop,J=fun k _=>AllTo formedA l k:=⟨_,rfl⟩
  simp [h0,h0']
  refine XLoop.cnt hmix l.length (fun k _=>⟨[(3,.int .i64 k),(0,.vec 11 false (l.map encArr))],[]⟩) J () (by rw [hJ]; exact .zero) (by simp) fun k _ hk hj=>?_
  have hw:=wrap64 (n:=(k : Int)+1) (by omega) (by omega)
  have hj' : AllTo formedA l k:=by rw [hJ] at hj; exact hj
  by_cases h1 : k < l.length
  ·have no : formedA l[k]=false→B=false:=fun h=>hB ▸ all_not h1 h
   have hs : formedA l[k]=(decide (0≤l[k].min)&&decide (-1≤l[k].max)&&(decide (l[k].max < 0)||decide (l[k].min≤l[k].max))&&formedT l[k].item&&(never l[k].item == decide (l[k].max=0))):=by
    cases l[k]; rfl
   have ih':=ih l[k] (List.getElem_mem h1)
   by_cases g1 : l[k].min < 0
   ·have g1' : ¬ 0≤l[k].min:=by omega
    simp [h1,g1,no (by rw [hs]; simp [g1'])]
   by_cases g2 : l[k].max < -1
   ·have g2' : ¬ -1≤l[k].max:=by omega
    simp [h1,g1,g2,no (by rw [hs]; simp [g2'])]
   have g1' : 0≤l[k].min:=by omega
   have g2' : -1≤l[k].max:=by omega
   by_cases g34 : 0≤l[k].max∧l[k].max < l[k].min
   ·obtain ⟨g3,g4⟩:=g34
    have g3' : ¬ l[k].max < 0:=by omega
    have g4' : ¬ l[k].min≤l[k].max:=by omega
    simp [h1,g1,g2,g3,g4,no (by rw [hs]; simp [g3',g4'])]
   have g6 : (decide (l[k].max < 0)||decide (l[k].min≤l[k].max))=true:=by simp; omega
   rw [g6,decide_eq_true g1',decide_eq_true g2'] at hs
   by_cases g3 : 0≤l[k].max
   rotate_left
   ·have g5 : ¬ l[k].max=0:=by omega
    simp [h1,g1,g2,g3]
    intros
    refine XDCall.ret ih' ?_
    cases hf : formedT l[k].item
    ·simp [no (by rw [hs,hf]; simp)]
    ·simp [h1]
     refine XDCall.ret (c_ref09_Never l[k].item) ?_
     rw [hf] at hs
     cases hn : never l[k].item <;> rw [hn] at hs
     ·simp [g5,h1,hw]
      exact ⟨(),by rw [hJ]; exact hj'.step h1 (by rw [hs]; simp [g5])⟩
     ·simp [g5,h1,no (by rw [hs]; simp [g5])]
   ·have g4 : ¬ l[k].max < l[k].min:=by omega
    simp [h1,g1,g2,g3,g4]
    intros
    refine XDCall.ret ih' ?_
    cases hf : formedT l[k].item
    ·simp [no (by rw [hs,hf]; simp)]
    ·simp [h1]
     refine XDCall.ret (c_ref09_Never l[k].item) ?_
     rw [hf] at hs
     cases hn : never l[k].item <;> rw [hn] at hs
     ·by_cases g5 : l[k].max=0
      ·simp [g5,h1,no (by rw [hs]; simp [g5])]
      ·simp [g5,h1,hw]
       exact ⟨(),by rw [hJ]; exact hj'.step h1 (by rw [hs]; simp [g5])⟩
     ·by_cases g5 : l[k].max=0
      ·simp [g5,h1,hw]
       exact ⟨(),by rw [hJ]; exact hj'.step h1 (by rw [hs]; simp [g5])⟩
      ·simp [g5,h1,no (by rw [hs]; simp [g5])]
  ·simp [h1,← hB,hj'.all h1]
 ·have h0' : (1 : Int) < l.length:=by omega
  simp [h0,h0']
set_option maxHeartbeats 4000000 in
theorem formed_object (o : Ob) (ih : ∀ t ∈ o.fields,Ret prog M.F_ref09_Formed [.agg (cT t)] (.bool (formedT t))) (ihr : Ret prog M.F_ref09_Formed [.agg (cT o.rest)] (.bool (formedT o.rest))) : Ret prog M.F_ref09_object [.agg (cO o)] (.bool (formedO o)):=by
 refine Ret.go hmix h_ref09_object (by simp) fun hb w0 F0 hG=>?_
 simp only [bndL,bndV,List.length_map,LIM,and_true] at hb
 have hO : formedO o=(decide (o.names.length=o.fields.length)&&decide (o.names.length=o.must.length)&&riseB o.names&&formedT o.rest&&formedTs o.fields&&(o.fields.zip o.must).all (fun p=>!p.2||!never p.1)):=by
  cases o; rfl
 generalize hB : formedO o=B at *
 by_cases g1 : o.names.length=o.fields.length
 rotate_left
 ·have g1' : ¬ (o.names.length : Int)=o.fields.length:=by omega
  simp [g1,g1',show B=false by rw [hO]; simp [g1]]
 have g1' : (o.names.length : Int)=o.fields.length:=by omega
 by_cases g2 : o.names.length=o.must.length
 rotate_left
 ·have g2' : ¬ (o.names.length : Int)=o.must.length:=by omega
  simp [← g1,g2,g2',show B=false by rw [hO]; simp [g2]]
 have g2' : (o.names.length : Int)=o.must.length:=by omega
 simp [← g1,← g2]
 intro v
 refine XCall.ret (c_ref03_Rise o.names) ?_
 cases hr : riseB o.names
 ·simp [show B=false by rw [hO,hr]; simp]
 simp
 refine XCall.ret ihr ?_
 cases hf : formedT o.rest
 ·simp [show B=false by rw [hO,hf]; simp]
 simp
 rw [decide_eq_true g1,decide_eq_true g2,hr,hf,formedTs_all] at hO
 obtain ⟨J,hJ⟩ : ∃ J : Nat→Unit→Prop,J=fun k _=>AllTo formedT o.fields k∧AllTo (fun p : Ty × Bool=>!p.2||!never p.1) (o.fields.zip o.must) k:=⟨_,rfl⟩
 refine XLoop.cnt hmix o.fields.length (fun k _=>⟨[(3,.int .i64 k),(1,.ptr (1,v) 12 0 0)],[((1,v),some ⟨12,[cO o],false,true⟩)]⟩) J () (by rw [hJ]; exact ⟨.zero,.zero⟩) (by simp) fun k _ hk hj=>?_
 have hw:=wrap64 (n:=(k : Int)+1) (by omega) (by omega)
 obtain ⟨j1,j2⟩ : AllTo formedT o.fields k∧AllTo (fun p : Ty × Bool=>!p.2||!never p.1) (o.fields.zip o.must) k:=by rw [hJ] at hj; exact hj
 by_cases h1 : k < o.fields.length
 ·have h2 : k < o.must.length:=by omega
  have h3 : k < (o.fields.zip o.must).length:=by simp; omega
  have hz : (o.fields.zip o.must)[k]=(o.fields[k],o.must[k]):=by simp
  simp [h1]
  refine XCall.ret (ih o.fields[k] (List.getElem_mem h1)) ?_
  cases e1 : formedT o.fields[k]
  ·simp [show B=false by rw [hO,all_not h1 e1]; simp]
  cases e2 : o.must[k]
  ·simp [h1,h2,e2,hw]
   refine ⟨(),?_⟩
   rw [hJ]; exact ⟨j1.step h1 e1,j2.step h3 (by rw [hz]; simp [e2])⟩
  ·simp [h1,h2,e2]
   refine XCall.ret (c_ref09_Never o.fields[k]) ?_
   cases e3 : never o.fields[k]
   ·simp [hw]
    refine ⟨h1,(),?_⟩
    rw [hJ]; exact ⟨j1.step h1 e1,j2.step h3 (by rw [hz]; simp [e3])⟩
   ·simp [show B=false by rw [hO,all_not h3 (by rw [hz]; simp [e2,e3])]; simp]
 ·have : B=true:=by rw [hO,j1.all h1,j2.all (by simp; omega)]; rfl
  simp [h1,this]
theorem formed_objects (l : List Ob) (ih : ∀ o ∈ l,Ret prog M.F_ref09_object [.agg (cO o)] (.bool (formedO o))) : Ret prog M.F_ref09_objects [.vec 12 false (l.map encObj)] (.bool (l.all formedO)):=by
 refine Ret.go hmix h_ref09_objects (by simp) fun hb w0 F0 hG=>?_
 simp only [bndL,bndV,List.length_map,LIM,and_true] at hb
 generalize hB : l.all formedO=B
 obtain ⟨J,hJ⟩ : ∃ J : Nat→Unit→Prop,J=fun k _=>AllTo formedO l k:=⟨_,rfl⟩
 simp
 refine XLoop.cnt hmix l.length (fun k _=>⟨[(3,.int .i64 k),(0,.vec 12 false (l.map encObj))],[]⟩) J () (by rw [hJ]; exact .zero) (by simp) fun k _ hk hj=>?_
 have hw:=wrap64 (n:=(k : Int)+1) (by omega) (by omega)
 have hj' : AllTo formedO l k:=by rw [hJ] at hj; exact hj
 by_cases h1 : k < l.length
 ·have no : formedO l[k]=false→B=false:=fun h=>hB ▸ all_not h1 h
  simp [h1]
  refine XCall.ret (ih l[k] (List.getElem_mem h1)) ?_
  cases e1 : formedO l[k]
  ·simp [no e1]
  ·simp [hw]
   exact ⟨h1,(),by rw [hJ]; exact hj'.step h1 e1⟩
 ·simp [h1,← hB,hj'.all h1]
end Go.Proofs.YtbdogkmdanmojaaGreatDoor.Pv
set_option maxRecDepth 100000
namespace Go.Proofs.YtbdogkmdanmojaaGreatDoor.Pv
open Go Go.Tidy
theorem formedT_def (t : Ty) : formedT t=((!t.all||bare t)&&riseB t.texts&&(!t.any||t.texts.isEmpty)&&(decide (t.nums.length≤1)&&t.nums.all spanB)&&(decide (t.arrays.length≤1)&&t.arrays.all formedA)&&t.objects.all formedO):=by
 cases t
 simp only [formedT,formedAs_all,formedOs_all,Ty.all,Ty.any,Ty.nums,Ty.texts,Ty.arrays,Ty.objects,Bool.and_assoc]
 rfl
theorem formed_step (t : Ty) (ha : ∀ a ∈ t.arrays,Ret prog M.F_ref09_Formed [.agg (cT a.item)] (.bool (formedT a.item))) (ho : ∀ o ∈ t.objects,Ret prog M.F_ref09_object [.agg (cO o)] (.bool (formedO o))) : Ret prog M.F_ref09_Formed [.agg (cT t)] (.bool (formedT t)):=by
 refine Ret.go hmix h_ref09_Formed (by simp) fun hb w0 F0 hG=>?_
 have hB:=formedT_def t
 generalize formedT t=B at *
 have bare':=c_ref09_Bare t
 unfold cT at bare'
 have r1:=c_ref03_Rise t.texts
 have r2:=c_ref09_Spans t.nums
 have r3:=formed_arrays t.arrays ha
 have r4:=formed_objects t.objects ho
 cases h1 : t.all <;> rw [h1] at hB bare'
 ·simp [h1]
  intro v
  refine XCall.ret r1 ?_
  cases h2 : riseB t.texts <;> rw [h2] at hB
  ·simp [show B=false by rw [hB]; simp]
  cases h3 : t.any <;> rw [h3] at hB
  ·simp [h3]
   refine XCall.ret r2 ?_
   generalize (decide (t.nums.length≤1)&&t.nums.all spanB)=p at *
   cases p
   ·simp [show B=false by rw [hB]; simp]
   simp
   refine XCall.ret r3 ?_
   generalize (decide (t.arrays.length≤1)&&t.arrays.all formedA)=p at *
   cases p
   ·simp [show B=false by rw [hB]; simp]
   simp
   refine XCall.ret r4 ?_
   simp [show B=t.objects.all formedO by rw [hB]; simp]
  ·cases h4 : t.texts.isEmpty <;> rw [h4] at hB
   ·have h4' : 0 < t.texts.length:=by cases ht : t.texts with | nil=>rw [ht] at h4; simp at h4 | cons=>simp
    have h4'' : (0 : Int) < t.texts.length:=by omega
    simp [h3,h4',h4'',show B=false by rw [hB]; simp]
   ·have h4' : ¬ 0 < t.texts.length:=by cases ht : t.texts with | nil=>simp | cons=>rw [ht] at h4; simp at h4
    have h4'' : ¬ (0 : Int) < t.texts.length:=by omega
    simp [h3,h4',h4'']
    refine XCall.ret r2 ?_
    generalize (decide (t.nums.length≤1)&&t.nums.all spanB)=p at *
    cases p
    ·simp [show B=false by rw [hB]; simp]
    simp
    refine XCall.ret r3 ?_
    generalize (decide (t.arrays.length≤1)&&t.arrays.all formedA)=p at *
    cases p
    ·simp [show B=false by rw [hB]; simp]
    simp
    refine XCall.ret r4 ?_
    simp [show B=t.objects.all formedO by rw [hB]; simp]
 ·simp [h1]
  intro v
  refine XCall.ret bare' ?_
  cases h5 : bare t <;> rw [h5] at hB
  ·simp [show B=false by rw [hB]; simp]
  ·simp
   refine XCall.ret r1 ?_
   cases h2 : riseB t.texts <;> rw [h2] at hB
   ·simp [show B=false by rw [hB]; simp]
   cases h3 : t.any <;> rw [h3] at hB
   ·simp [h3]
    refine XCall.ret r2 ?_
    generalize (decide (t.nums.length≤1)&&t.nums.all spanB)=p at *
    cases p
    ·simp [show B=false by rw [hB]; simp]
    simp
    refine XCall.ret r3 ?_
    generalize (decide (t.arrays.length≤1)&&t.arrays.all formedA)=p at *
    cases p
    ·simp [show B=false by rw [hB]; simp]
    simp
    refine XCall.ret r4 ?_
    simp [show B=t.objects.all formedO by rw [hB]; simp]
   ·cases h4 : t.texts.isEmpty <;> rw [h4] at hB
    ·have h4' : 0 < t.texts.length:=by cases ht : t.texts with | nil=>rw [ht] at h4; simp at h4 | cons=>simp
     have h4'' : (0 : Int) < t.texts.length:=by omega
     simp [h3,h4',h4'',show B=false by rw [hB]; simp]
    ·have h4' : ¬ 0 < t.texts.length:=by cases ht : t.texts with | nil=>simp | cons=>rw [ht] at h4; simp at h4
     have h4'' : ¬ (0 : Int) < t.texts.length:=by omega
     simp [h3,h4',h4'']
     refine XCall.ret r2 ?_
     generalize (decide (t.nums.length≤1)&&t.nums.all spanB)=p at *
     cases p
     ·simp [show B=false by rw [hB]; simp]
     simp
     refine XCall.ret r3 ?_
     generalize (decide (t.arrays.length≤1)&&t.arrays.all formedA)=p at *
     cases p
     ·simp [show B=false by rw [hB]; simp]
     simp
     refine XCall.ret r4 ?_
     simp [show B=t.objects.all formedO by rw [hB]; simp]
theorem c_ref09_Formed (t : Ty) : Ret prog M.F_ref09_Formed [.agg (cT t)] (.bool (formedT t)):=by
 induction hn : SizeOf.sizeOf t using Nat.strongRecOn generalizing t with
 | _ n ih =>
   subst hn
   refine formed_step t (fun a ha=>ih _ (sz_item ha) a.item rfl) fun o ho=>formed_object o (fun x hx=>ih _ (sz_field ho hx) x rfl) (ih _ (sz_rest ho) o.rest rfl)
end Go.Proofs.YtbdogkmdanmojaaGreatDoor.Pv
set_option maxRecDepth 100000
namespace Go.Proofs.YtbdogkmdanmojaaGreatDoor.Pv
open Go Go.Tidy
theorem heightAs_take : ∀ {l : List Arr} {k : Nat} (hk : k < l.length),heightAs (l.take (k+1))=max (heightAs (l.take k)) (heightT l[k].item+1)
 | .mk t _ _::l,0,_=>by simp [heightAs,Arr.item]
 | .mk t _ _::l,k+1,h=>by
   have:=heightAs_take (l:=l) (k:=k) (by simpa using h)
   simp only [List.take_succ_cons,heightAs,List.getElem_cons_succ]
   rw [this]; omega
theorem heightTs_take : ∀ {l : List Ty} {k : Nat} (hk : k < l.length),heightTs (l.take (k+1))=max (heightTs (l.take k)) (heightT l[k]+1)
 | t::l,0,_=>by simp [heightTs]
 | t::l,k+1,h=>by
   have:=heightTs_take (l:=l) (k:=k) (by simpa using h)
   simp only [List.take_succ_cons,heightTs,List.getElem_cons_succ]
   rw [this]; omega
theorem heightOs_take : ∀ {l : List Ob} {k : Nat} (hk : k < l.length),heightOs (l.take (k+1))=max (heightOs (l.take k)) (max (heightT l[k].rest+1) (heightTs l[k].fields))
 | .mk _ fs _ r::l,0,_=>by simp [heightOs,Ob.rest,Ob.fields]
 | .mk _ fs _ r::l,k+1,h=>by
   have:=heightOs_take (l:=l) (k:=k) (by simpa using h)
   simp only [List.take_succ_cons,heightOs,List.getElem_cons_succ]
   rw [this]; omega
theorem heightT_def (t : Ty) : heightT t=max (heightAs t.arrays) (heightOs t.objects):=by cases t; rfl
theorem heightAs_mem {l : List Arr} {a : Arr} (h : a ∈ l) : heightT a.item+1≤heightAs l:=by
 induction l with
 | nil=>simp at h
 | cons b l ih =>
   obtain ⟨t,lo,hi⟩:=b
   rcases List.mem_cons.1 h with rfl | h
   ·simp only [heightAs,Arr.item]; omega
   ·have:=ih h; simp only [heightAs]; omega
theorem heightTs_mem {l : List Ty} {a : Ty} (h : a ∈ l) : heightT a+1≤heightTs l:=by
 induction l with
 | nil=>simp at h
 | cons b l ih =>
   rcases List.mem_cons.1 h with rfl | h
   ·simp only [heightTs]; omega
   ·have:=ih h; simp only [heightTs]; omega
theorem heightOs_mem {l : List Ob} {a : Ob} (h : a ∈ l) : heightT a.rest+1≤heightOs l∧heightTs a.fields≤heightOs l:=by
 induction l with
 | nil=>simp at h
 | cons b l ih =>
   obtain ⟨ns,fs,ms,r⟩:=b
   rcases List.mem_cons.1 h with rfl | h
   ·simp only [heightOs,Ob.rest,Ob.fields]; omega
   ·have:=ih h; simp only [heightOs]; omega
theorem higher_step (h : Nat) (t : Ty) (ht : heightT t < 2 ^ 62) (ih : Ret prog M.F_ref09_Height [.agg (cT t)] (.int .i64 (heightT t : Nat))) : Ret prog M.F_ref09_higher [.int .i64 h,.agg (cT t)] (.int .i64 (max h (heightT t+1) : Nat)):=by
 refine Ret.go hmix h_ref09_higher (by simp) fun hb w0 F0 hG=>?_
 have w1:=wrap64 (n:=(heightT t : Int)+1) (by omega) (by omega)
 simp
 intro v
 refine XCall.ret ih ?_
 by_cases g : h < heightT t+1
 ·have g' : (h : Int) < (heightT t : Int)+1:=by omega
  simp [w1,g']
  omega
 ·have g' : ¬ (h : Int) < (heightT t : Int)+1:=by omega
  simp [w1,g']
  omega
set_option maxHeartbeats 4000000 in
theorem height_step (t : Ty) (ht : heightT t < 2 ^ 62) (ha : ∀ a ∈ t.arrays,∀ h : Nat,Ret prog M.F_ref09_higher [.int .i64 h,.agg (cT a.item)] (.int .i64 (max h (heightT a.item+1) : Nat)))
 (hr : ∀ o ∈ t.objects,∀ h : Nat,Ret prog M.F_ref09_higher [.int .i64 h,.agg (cT o.rest)] (.int .i64 (max h (heightT o.rest+1) : Nat)))
 (hf : ∀ o ∈ t.objects,∀ x ∈ o.fields,∀ h : Nat,Ret prog M.F_ref09_higher [.int .i64 h,.agg (cT x)] (.int .i64 (max h (heightT x+1) : Nat))) :
 Ret prog M.F_ref09_Height [.agg (cT t)] (.int .i64 (heightT t : Nat)):=by
 refine Ret.go hmix h_ref09_Height (by simp) fun hb w0 F0 hG=>?_
 simp only [bndL,bndV,List.length_map,LIM,and_true] at hb
 have hd:=heightT_def t
 generalize heightT t=H at *
 simp
 intro v
 obtain ⟨J,hJ⟩ : ∃ J : Nat→Nat→Prop,J=fun k m=>m=heightAs (t.arrays.take k):=⟨_,rfl⟩
 refine XLoop.cnt hmix t.arrays.length (fun k m=>⟨[(4,.int .i64 k),(3,.int .i64 (m : Nat)),(1,.ptr (1,v) 9 0 0)],[((1,v),some ⟨9,[cT t],false,true⟩)]⟩) J 0 (by simp [hJ,heightAs]) (by simp) fun k m hk hj=>?_
 have hw:=wrap64 (n:=(k : Int)+1) (by omega) (by omega)
 have hj' : m=heightAs (t.arrays.take k):=by rw [hJ] at hj; exact hj
 by_cases h1 : k < t.arrays.length
 ·simp [h1]
  refine XCall.ret (ha t.arrays[k] (List.getElem_mem h1) m) ?_
  simp [hw]
  refine ⟨h1,max m (heightT t.arrays[k].item+1),?_,rfl⟩
  rw [hJ]
  show _=heightAs _
  rw [heightAs_take h1,hj']
 ·have hm : m=heightAs t.arrays:=by rw [hj',List.take_of_length_le (by omega)]
  simp [h1]
  clear hj hj' hJ J
  obtain ⟨J,hJ⟩ : ∃ J : Nat→Nat→Prop,J=fun k n=>n=max m (heightOs (t.objects.take k)):=⟨_,rfl⟩
  refine XLoop.cnt hmix t.objects.length (fun k n=>⟨[(5,.int .i64 k),(3,.int .i64 (n : Nat)),(1,.ptr (1,v) 9 0 0)],[((1,v),some ⟨9,[cT t],false,true⟩)]⟩) J m (by simp [hJ,heightOs]) (by simp) fun i n hi hj=>?_
  have hw:=wrap64 (n:=(i : Int)+1) (by omega) (by omega)
  have hj' : n=max m (heightOs (t.objects.take i)):=by rw [hJ] at hj; exact hj
  by_cases h2 : i < t.objects.length
  ·simp [h2]
   refine XCall.ret (hr t.objects[i] (List.getElem_mem h2) n) ?_
   simp
   obtain ⟨J',hJ'⟩ : ∃ J : Nat→Nat→Prop,J=fun j p=>p=max (max n (heightT t.objects[i].rest+1)) (heightTs (t.objects[i].fields.take j)):=⟨_,rfl⟩
   refine XLoop.cnt hmix t.objects[i].fields.length (fun j p=>⟨[(6,.int .i64 j),(5,.int .i64 i),(3,.int .i64 (p : Nat)),(1,.ptr (1,v) 9 0 0)],[((1,v),some ⟨9,[cT t],false,true⟩)]⟩) J' (max n (heightT t.objects[i].rest+1)) (by simp [hJ',heightTs]) (by simp) fun j p hj2 hjj=>?_
   have hbo : t.objects[i].fields.length≤140737488355328:=by
    have:=bndR_map hb.2.2.2.2.2.2.2.2.2 t.objects[i] (List.getElem_mem h2)
    simp only [encObj_eq,bndL,bndV,List.length_map,LIM,and_true] at this
    omega
   have hw':=wrap64 (n:=(j : Int)+1) (by omega) (by omega)
   have hjj' : p=max (max n (heightT t.objects[i].rest+1)) (heightTs (t.objects[i].fields.take j)):=by rw [hJ'] at hjj; exact hjj
   by_cases h3 : j < t.objects[i].fields.length
   ·simp [h2,h3]
    refine XCall.ret (hf t.objects[i] (List.getElem_mem h2) t.objects[i].fields[j] (List.getElem_mem h3) p) ?_
    simp [hw']
    refine ⟨h3,max p (heightT t.objects[i].fields[j]+1),?_,rfl⟩
    rw [hJ']
    show _=max _ (heightTs _)
    rw [heightTs_take h3,hjj']
    omega
   ·have hp : p=max (max n (heightT t.objects[i].rest+1)) (heightTs t.objects[i].fields):=by rw [hjj',List.take_of_length_le (by omega)]
    simp [h2,h3,hw]
    refine ⟨p,?_,rfl⟩
    rw [hJ]
    show _=max _ (heightOs _)
    rw [heightOs_take h2,hp,hj']
    omega
  ·have hn : n=H:=by rw [hj',List.take_of_length_le (by omega),hd,hm]
   simp [h2,hn]
theorem c_ref09_Height (t : Ty) (ht : heightT t < 2 ^ 62) : Ret prog M.F_ref09_Height [.agg (cT t)] (.int .i64 (heightT t : Nat)):=by
 induction hn : SizeOf.sizeOf t using Nat.strongRecOn generalizing t with
 | _ n ih =>
   subst hn
   have hd:=heightT_def t
   refine height_step t ht (fun a ha h=>?_) (fun o ho h=>?_) fun o ho x hx h=>?_
   ·have:=heightAs_mem ha
    have h2 : heightT a.item < 2 ^ 62:=by omega
    exact higher_step h a.item h2 (ih _ (sz_item ha) a.item h2 rfl)
   ·have:=(heightOs_mem ho).1
    have h2 : heightT o.rest < 2 ^ 62:=by omega
    exact higher_step h o.rest h2 (ih _ (sz_rest ho) o.rest h2 rfl)
   ·have h3:=(heightOs_mem ho).2
    have h4:=heightTs_mem hx
    have h2 : heightT x < 2 ^ 62:=by omega
    exact higher_step h x h2 (ih _ (sz_field ho hx) x h2 rfl)
end Go.Proofs.YtbdogkmdanmojaaGreatDoor.Pv
set_option maxRecDepth 100000
namespace Go.Proofs.YtbdogkmdanmojaaGreatDoor.Pv
open Go Go.Tidy
end Go.Proofs.YtbdogkmdanmojaaGreatDoor.Pv
set_option maxRecDepth 100000
namespace Go.Proofs.YtbdogkmdanmojaaGreatDoor.Pv
open Go Go.Tidy
end Go.Proofs.YtbdogkmdanmojaaGreatDoor.Pv
set_option maxRecDepth 100000
namespace Go.Proofs.YtbdogkmdanmojaaGreatDoor.Pv
open Go Go.Tidy
end Go.Proofs.YtbdogkmdanmojaaGreatDoor.Pv
set_option maxRecDepth 100000
namespace Go.Proofs.YtbdogkmdanmojaaGreatDoor.Pv
open Go Go.Tidy
end Go.Proofs.YtbdogkmdanmojaaGreatDoor.Pv
set_option maxRecDepth 100000
namespace Go.Proofs.YtbdogkmdanmojaaGreatDoor.Pv
open Go Go.Tidy
end Go.Proofs.YtbdogkmdanmojaaGreatDoor.Pv
set_option maxRecDepth 100000
namespace Go.Proofs.YtbdogkmdanmojaaGreatDoor.Pv
open Go Go.Tidy
end Go.Proofs.YtbdogkmdanmojaaGreatDoor.Pv
set_option maxRecDepth 100000
namespace Go.Proofs.YtbdogkmdanmojaaGreatDoor.Pv
open Go Go.Tidy
def FitT (t : Ty) : Prop:=formedT t=true∧nmT 34359738368 t=true
theorem FitT.item {t : Ty} (h : FitT t) {a : Arr} (ha : a ∈ t.arrays) : FitT a.item:=by
 have h2:=h.2
 rw [nmT_def,Bool.and_eq_true] at h2
 exact ⟨(formedA_spec ((formedT_spec h.1).2.2.2.2.2.2.1 a ha)).2.2.2.1,nmAs_mem h2.1 ha⟩
theorem FitT.rest {t : Ty} (h : FitT t) {o : Ob} (ho : o ∈ t.objects) : FitT o.rest:=by
 have h2:=h.2
 rw [nmT_def,Bool.and_eq_true] at h2
 exact ⟨(formedO_spec ((formedT_spec h.1).2.2.2.2.2.2.2 o ho)).2.2.2.1,(nmOs_mem h2.2 ho).2.2⟩
theorem FitT.field {t : Ty} (h : FitT t) {o : Ob} (ho : o ∈ t.objects) {f : Ty} (hf : f ∈ o.fields) : FitT f:=by
 have h2:=h.2
 rw [nmT_def,Bool.and_eq_true] at h2
 exact ⟨(formedO_spec ((formedT_spec h.1).2.2.2.2.2.2.2 o ho)).2.2.2.2.1 f hf,(nmOs_mem h2.2 ho).2.1 f hf⟩
theorem FitT.names {t : Ty} (h : FitT t) {o : Ob} (ho : o ∈ t.objects) : o.names.length≤34359738368∧o.names.length=o.fields.length∧o.names.length=o.must.length:=by
 have h2:=h.2
 rw [nmT_def,Bool.and_eq_true] at h2
 have:=formedO_spec ((formedT_spec h.1).2.2.2.2.2.2.2 o ho)
 exact ⟨(nmOs_mem h2.2 ho).1,this.1,this.2.1⟩
theorem fit_laidAll : FitT laidAll:=by
 refine ⟨?_,?_⟩
 ·simp [laidAll,tEvery,formedT,formedAs,formedOs,formedA,formedO,formedTs,riseB,spanB,boundB,sEmp,never,bare,Ty.all,Ty.null,Ty.fls,Ty.tru,Ty.nums,Ty.any,Ty.texts,Ty.arrays,Ty.objects]
 ·simp [laidAll,tEvery,nmT,nmAs,nmOs,nmTs]
theorem FitT.laid {t : Ty} (h : FitT t) : FitT (laidT t):=by
 unfold laidT
 split
 ·exact fit_laidAll
 ·exact h
end Go.Proofs.YtbdogkmdanmojaaGreatDoor.Pv
set_option maxRecDepth 100000
namespace Go.Proofs.YtbdogkmdanmojaaGreatDoor.Pv
open Go Go.Tidy
end Go.Proofs.YtbdogkmdanmojaaGreatDoor.Pv
set_option maxRecDepth 100000
namespace Go.Proofs.YtbdogkmdanmojaaGreatDoor.Pv
open Go Go.Tidy
end Go.Proofs.YtbdogkmdanmojaaGreatDoor.Pv
set_option maxRecDepth 100000
namespace Go.Proofs.YtbdogkmdanmojaaGreatDoor.Pv
open Go Go.Tidy
theorem take_len {α β : Type} (f : α→β) (l : List α) : (l.map f).take l.length=l.map f:=List.take_of_length_le (by simp)
attribute [simp] take_len
end Go.Proofs.YtbdogkmdanmojaaGreatDoor.Pv
namespace Go.Tidy
open Go
mutual
def bdT (NM : List S) (m : Nat) : Ty→Prop
 | .mk _ _ _ _ _ _ ts az os=>ts.length≤4 * m∧os.length≤m∧bdAs NM m az∧bdOs NM m os
def bdAs (NM : List S) (m : Nat) : List Arr→Prop
 | []=>True
 | .mk t _ _::l=>bdT NM m t∧bdAs NM m l
def bdOs (NM : List S) (m : Nat) : List Ob→Prop
 | []=>True
 | .mk ns fs _ r::l=>((∀ n ∈ ns,n ∈ NM)∧bdTs NM m fs∧bdT NM m r)∧bdOs NM m l
def bdTs (NM : List S) (m : Nat) : List Ty→Prop
 | []=>True
 | t::l=>bdT NM m t∧bdTs NM m l
end
end Go.Tidy
set_option maxRecDepth 100000
namespace Go.Proofs.YtbdogkmdanmojaaGreatDoor.Pv
open Go Go.Tidy
end Go.Proofs.YtbdogkmdanmojaaGreatDoor.Pv
set_option maxRecDepth 100000
namespace Go.Proofs.YtbdogkmdanmojaaGreatDoor.Pv
open Go Go.Tidy
theorem map_take' {α β : Type} (f : α→β) {l : List α} {k : Nat} (hk : k < l.length) : (l.take (k+1)).map f=(l.take k).map f++[f l[k]]:=by
 rw [List.take_add_one,List.getElem?_eq_getElem hk]
 simp only [Option.toList_some,List.map_append,List.map_cons,List.map_nil]
end Go.Proofs.YtbdogkmdanmojaaGreatDoor.Pv
set_option maxRecDepth 100000
namespace Go.Proofs.YtbdogkmdanmojaaGreatDoor.Pv
open Go Go.Tidy
end Go.Proofs.YtbdogkmdanmojaaGreatDoor.Pv
set_option maxRecDepth 100000
namespace Go.Proofs.YtbdogkmdanmojaaGreatDoor.Pv
open Go Go.Tidy
end Go.Proofs.YtbdogkmdanmojaaGreatDoor.Pv
set_option maxRecDepth 100000
namespace Go.Proofs.YtbdogkmdanmojaaGreatDoor.Pv
open Go Go.Tidy
end Go.Proofs.YtbdogkmdanmojaaGreatDoor.Pv
set_option maxRecDepth 100000
namespace Go.Proofs.YtbdogkmdanmojaaGreatDoor.Pv
open Go Go.Tidy
end Go.Proofs.YtbdogkmdanmojaaGreatDoor.Pv
set_option maxRecDepth 100000
namespace Go.Proofs.YtbdogkmdanmojaaGreatDoor.Pv
open Go Go.Tidy
end Go.Proofs.YtbdogkmdanmojaaGreatDoor.Pv
set_option maxRecDepth 100000
namespace Go.Proofs.YtbdogkmdanmojaaGreatDoor.Pv
open Go Go.Tidy
end Go.Proofs.YtbdogkmdanmojaaGreatDoor.Pv
set_option maxRecDepth 100000
namespace Go.Proofs.YtbdogkmdanmojaaGreatDoor.Pv
open Go Go.Tidy
end Go.Proofs.YtbdogkmdanmojaaGreatDoor.Pv
set_option maxRecDepth 100000
namespace Go.Proofs.YtbdogkmdanmojaaGreatDoor.Pv
open Go Go.Tidy
end Go.Proofs.YtbdogkmdanmojaaGreatDoor.Pv
namespace Go.Tidy
open Go
mutual
def tpT : Ty→Nat→Nat
 | .mk _ _ _ _ ns _ ts az os,m=>tpOs os m (tpAs az m (1+ts.length+ns.length))
def tpAs : List Arr→Nat→Nat→Nat
 | [],_,n=>n
 | .mk t _ _::l,m,n=>if n≤m then tpAs l m (n+tpT t (m - n)) else n
def tpOs : List Ob→Nat→Nat→Nat
 | [],_,n=>n
 | .mk ns fs ms r::l,m,n=>if n≤m then tpOs l m (tpTs fs m (n+ns.length+ms.length+tpT r (m - n))) else n
def tpTs : List Ty→Nat→Nat→Nat
 | [],_,n=>n
 | t::l,m,n=>if n≤m then tpTs l m (n+tpT t (m - n)) else n
end
mutual
def szT : Ty→Nat
 | .mk _ _ _ _ ns _ ts az os=>1+ts.length+ns.length+szAs az+szOs os
def szAs : List Arr→Nat
 | []=>0
 | .mk t _ _::l=>szT t+szAs l
def szOs : List Ob→Nat
 | []=>0
 | .mk ns fs ms r::l=>ns.length+ms.length+szT r+szTs fs+szOs l
def szTs : List Ty→Nat
 | []=>0
 | t::l=>szT t+szTs l
end
mutual
def nmsT : Ty→List S
 | .mk _ _ _ _ _ _ _ az os=>nmsAs az++nmsOs os
def nmsAs : List Arr→List S
 | []=>[]
 | .mk t _ _::l=>nmsT t++nmsAs l
def nmsOs : List Ob→List S
 | []=>[]
 | .mk ns fs _ r::l=>ns++nmsT r++nmsTs fs++nmsOs l
def nmsTs : List Ty→List S
 | []=>[]
 | t::l=>nmsT t++nmsTs l
end
mutual
theorem tp_sz : ∀ (t : Ty) (m : Nat),tpT t m≤m→tpT t m=szT t
 | .mk _ _ _ _ ns _ ts az os,m,h=>by
   simp only [tpT,szT] at h ⊢
   have h2:=tp_szOs os m _ h
   have h1:=tp_szAs az m (1+ts.length+ns.length) (by omega)
   omega
theorem tp_szAs : ∀ (l : List Arr) (m n : Nat),tpAs l m n≤m→tpAs l m n=n+szAs l
 | [],m,n,_=>by simp [tpAs,szAs]
 | .mk t _ _::l,m,n,h=>by
   simp only [tpAs,szAs] at h ⊢
   split at h
   ·rename_i hn
    rw [if_pos hn]
    have h1:=tp_szAs l m _ h
    have h2:=tp_sz t (m - n) (by omega)
    omega
   ·omega
theorem tp_szOs : ∀ (l : List Ob) (m n : Nat),tpOs l m n≤m→tpOs l m n=n+szOs l
 | [],m,n,_=>by simp [tpOs,szOs]
 | .mk ns fs ms r::l,m,n,h=>by
   simp only [tpOs,szOs] at h ⊢
   split at h
   ·rename_i hn
    rw [if_pos hn]
    have h1:=tp_szOs l m _ h
    have h2:=tp_szTs fs m (n+ns.length+ms.length+tpT r (m - n)) (by omega)
    have h3:=tp_sz r (m - n) (by omega)
    omega
   ·omega
theorem tp_szTs : ∀ (l : List Ty) (m n : Nat),tpTs l m n≤m→tpTs l m n=n+szTs l
 | [],m,n,_=>by simp [tpTs,szTs]
 | t::l,m,n,h=>by
   simp only [tpTs,szTs] at h ⊢
   split at h
   ·rename_i hn
    rw [if_pos hn]
    have h1:=tp_szTs l m _ h
    have h2:=tp_sz t (m - n) (by omega)
    omega
   ·omega
end
mutual
theorem nms_len : ∀ t : Ty,(nmsT t).length≤szT t
 | .mk _ _ _ _ ns _ ts az os=>by
   have:=nms_lenAs az
   have:=nms_lenOs os
   simp only [nmsT,szT,List.length_append]; omega
theorem nms_lenAs : ∀ l : List Arr,(nmsAs l).length≤szAs l
 | []=>by simp [nmsAs]
 | .mk t _ _::l=>by
   have:=nms_len t
   have:=nms_lenAs l
   simp only [nmsAs,szAs,List.length_append]; omega
theorem nms_lenOs : ∀ l : List Ob,(nmsOs l).length≤szOs l
 | []=>by simp [nmsOs]
 | .mk ns fs ms r::l=>by
   have:=nms_len r
   have:=nms_lenTs fs
   have:=nms_lenOs l
   simp only [nmsOs,szOs,List.length_append]; omega
theorem nms_lenTs : ∀ l : List Ty,(nmsTs l).length≤szTs l
 | []=>by simp [nmsTs]
 | t::l=>by
   have:=nms_len t
   have:=nms_lenTs l
   simp only [nmsTs,szTs,List.length_append]; omega
end
theorem szOs_len (l : List Ob) : l.length≤szOs l:=by
 induction l with
 | nil=>simp
 | cons o l ih =>
   obtain ⟨ns,fs,ms,r⟩:=o
   have : 1≤szT r:=by cases r; simp only [szT]; omega
   simp only [szOs,List.length_cons]; omega
mutual
theorem bd_sz {NM : List S} {m : Nat} : ∀ t : Ty,(∀ n ∈ nmsT t,n ∈ NM)→szT t≤m→bdT NM m t
 | .mk _ _ _ _ ns _ ts az os,hn,hm=>by
   have:=szOs_len os
   simp only [szT] at hm
   simp only [nmsT,List.mem_append] at hn
   exact ⟨by omega,by omega,bd_szAs az (fun n h=>hn n (.inl h)) (by omega),bd_szOs os (fun n h=>hn n (.inr h)) (by omega)⟩
theorem bd_szAs {NM : List S} {m : Nat} : ∀ l : List Arr,(∀ n ∈ nmsAs l,n ∈ NM)→szAs l≤m→bdAs NM m l
 | [],_,_=>trivial
 | .mk t _ _::l,hn,hm=>by
   simp only [szAs] at hm
   simp only [nmsAs,List.mem_append] at hn
   exact ⟨bd_sz t (fun n h=>hn n (.inl h)) (by omega),bd_szAs l (fun n h=>hn n (.inr h)) (by omega)⟩
theorem bd_szOs {NM : List S} {m : Nat} : ∀ l : List Ob,(∀ n ∈ nmsOs l,n ∈ NM)→szOs l≤m→bdOs NM m l
 | [],_,_=>trivial
 | .mk ns fs ms r::l,hn,hm=>by
   simp only [szOs] at hm
   simp only [nmsOs,List.mem_append] at hn
   exact ⟨⟨fun n h=>hn n (.inl (.inl (.inl h))),bd_szTs fs (fun n h=>hn n (.inl (.inr h))) (by omega),bd_sz r (fun n h=>hn n (.inl (.inl (.inr h)))) (by omega)⟩,bd_szOs l (fun n h=>hn n (.inr h)) (by omega)⟩
theorem bd_szTs {NM : List S} {m : Nat} : ∀ l : List Ty,(∀ n ∈ nmsTs l,n ∈ NM)→szTs l≤m→bdTs NM m l
 | [],_,_=>trivial
 | t::l,hn,hm=>by
   simp only [szTs] at hm
   simp only [nmsTs,List.mem_append] at hn
   exact ⟨bd_sz t (fun n h=>hn n (.inl h)) (by omega),bd_szTs l (fun n h=>hn n (.inr h)) (by omega)⟩
end
theorem fit_bdT {t : Ty} (h : tpT t 20000≤20000) : (nmsT t).length≤20000∧szT t≤20000∧bdT (nmsT t) (szT t) t:=by
 have:=tp_sz t 20000 h
 have hl:=nms_len t
 exact ⟨by omega,by omega,bd_sz t (fun _ h=>h) (Nat.le_refl _)⟩
theorem tpT_def (t : Ty) (m : Nat) : tpT t m=tpOs t.objects m (tpAs t.arrays m (1+t.texts.length+t.nums.length)):=by cases t; rfl
theorem tpAs_take (m : Nat) : ∀ (l : List Arr) (k n : Nat) (hk : k < l.length),tpAs (l.take (k+1)) m n=if tpAs (l.take k) m n≤m then tpAs (l.take k) m n+tpT l[k].item (m - tpAs (l.take k) m n) else tpAs (l.take k) m n
 | .mk t _ _::l,0,n,_=>by simp only [List.take_succ_cons,List.take_zero,tpAs,List.getElem_cons_zero,Arr.item_mk]
 | .mk t _ _::l,k+1,n,h=>by
   simp only [List.take_succ_cons,tpAs,List.getElem_cons_succ]
   split
   ·exact tpAs_take m l k _ (by simpa using h)
   ·rename_i hn; first | rfl | (rw [if_neg hn])
theorem tpTs_take (m : Nat) : ∀ (l : List Ty) (k n : Nat) (hk : k < l.length),tpTs (l.take (k+1)) m n=if tpTs (l.take k) m n≤m then tpTs (l.take k) m n+tpT l[k] (m - tpTs (l.take k) m n) else tpTs (l.take k) m n
 | t::l,0,n,_=>by simp only [List.take_succ_cons,List.take_zero,tpTs,List.getElem_cons_zero]
 | t::l,k+1,n,h=>by
   simp only [List.take_succ_cons,tpTs,List.getElem_cons_succ]
   split
   ·exact tpTs_take m l k _ (by simpa using h)
   ·rename_i hn; first | rfl | (rw [if_neg hn])
theorem tpOs_take (m : Nat) : ∀ (l : List Ob) (k n : Nat) (hk : k < l.length),tpOs (l.take (k+1)) m n=if tpOs (l.take k) m n≤m then tpTs l[k].fields m (tpOs (l.take k) m n+l[k].names.length+l[k].must.length+tpT l[k].rest (m - tpOs (l.take k) m n)) else tpOs (l.take k) m n
 | .mk ns fs ms r::l,0,n,_=>by simp only [List.take_succ_cons,List.take_zero,tpOs,List.getElem_cons_zero,Ob.fields_mk,Ob.names_mk,Ob.must_mk,Ob.rest_mk]
 | .mk ns fs ms r::l,k+1,n,h=>by
   simp only [List.take_succ_cons,tpOs,List.getElem_cons_succ]
   split
   ·exact tpOs_take m l k _ (by simpa using h)
   ·rename_i hn; first | rfl | (rw [if_neg hn])
theorem tpAs_stop {m : Nat} : ∀ {l : List Arr} {k n : Nat},m < tpAs (l.take k) m n→tpAs l m n=tpAs (l.take k) m n
 | [],k,n,_=>by simp
 | .mk t _ _::l,0,n,h=>by
   simp only [List.take_zero,tpAs] at h ⊢
   rw [if_neg (by omega)]
 | .mk t _ _::l,k+1,n,h=>by
   simp only [List.take_succ_cons,tpAs] at h ⊢
   split
   ·rename_i hn; rw [if_pos hn] at h; exact tpAs_stop h
   ·rfl
theorem tpTs_stop {m : Nat} : ∀ {l : List Ty} {k n : Nat},m < tpTs (l.take k) m n→tpTs l m n=tpTs (l.take k) m n
 | [],k,n,_=>by simp
 | t::l,0,n,h=>by
   simp only [List.take_zero,tpTs] at h ⊢
   rw [if_neg (by omega)]
 | t::l,k+1,n,h=>by
   simp only [List.take_succ_cons,tpTs] at h ⊢
   split
   ·rename_i hn; rw [if_pos hn] at h; exact tpTs_stop h
   ·rfl
theorem tpOs_stop {m : Nat} : ∀ {l : List Ob} {k n : Nat},m < tpOs (l.take k) m n→tpOs l m n=tpOs (l.take k) m n
 | [],k,n,_=>by simp
 | .mk ns fs ms r::l,0,n,h=>by
   simp only [List.take_zero,tpOs] at h ⊢
   rw [if_neg (by omega)]
 | .mk ns fs ms r::l,k+1,n,h=>by
   simp only [List.take_succ_cons,tpOs] at h ⊢
   split
   ·rename_i hn; rw [if_pos hn] at h; exact tpOs_stop h
   ·rfl
theorem tpAs_mono (m : Nat) : ∀ (l : List Arr) (n : Nat),n≤tpAs l m n
 | [],n=>by simp [tpAs]
 | .mk t _ _::l,n=>by
   simp only [tpAs]
   split
   ·have:=tpAs_mono m l (n+tpT t (m - n)); omega
   ·omega
theorem tpTs_mono (m : Nat) : ∀ (l : List Ty) (n : Nat),n≤tpTs l m n
 | [],n=>by simp [tpTs]
 | t::l,n=>by
   simp only [tpTs]
   split
   ·have:=tpTs_mono m l (n+tpT t (m - n)); omega
   ·omega
theorem tpOs_mono (m : Nat) : ∀ (l : List Ob) (n : Nat),n≤tpOs l m n
 | [],n=>by simp [tpOs]
 | .mk ns fs ms r::l,n=>by
   simp only [tpOs]
   split
   ·have:=tpOs_mono m l (tpTs fs m (n+ns.length+ms.length+tpT r (m - n)))
    have:=tpTs_mono m fs (n+ns.length+ms.length+tpT r (m - n))
    omega
   ·omega
def tpB (m : Nat) : Nat:=m+(m+1) * 281474976710656+281474976710657
mutual
def dlT : Ty→Prop
 | .mk _ _ _ _ ns _ ts az os=>ns.length≤140737488355328∧ts.length≤140737488355328∧dlAs az∧dlOs os
def dlAs : List Arr→Prop
 | []=>True
 | .mk t _ _::l=>dlT t∧dlAs l
def dlOs : List Ob→Prop
 | []=>True
 | .mk ns fs ms r::l=>(ns.length≤140737488355328∧ms.length≤140737488355328∧dlTs fs∧dlT r)∧dlOs l
def dlTs : List Ty→Prop
 | []=>True
 | t::l=>dlT t∧dlTs l
end
theorem tpB_step {m n : Nat} (h1 : 1≤n) (h2 : n≤m) : n+281474976710656+tpB (m - n)≤tpB m:=by
 unfold tpB
 omega
theorem tpB_base (m : Nat) : 281474976710657≤tpB m:=by unfold tpB; omega
mutual
theorem tp_bnd : ∀ (t : Ty) (m : Nat),dlT t→tpT t m≤tpB m∧1≤tpT t m
 | .mk _ _ _ _ ns _ ts az os,m,h=>by
   obtain ⟨h1,h2,h3,h4⟩:=h
   simp only [tpT]
   have b:=tpB_base m
   have a1:=tpAs_mono m az (1+ts.length+ns.length)
   have a2:=tpOs_mono m os (tpAs az m (1+ts.length+ns.length))
   have a3:=tp_bndAs az m (1+ts.length+ns.length) h3 (by omega) (by omega)
   have a4:=tp_bndOs os m _ h4 (by omega) a3
   exact ⟨a4,by omega⟩
theorem tp_bndAs : ∀ (l : List Arr) (m n : Nat),dlAs l→1≤n→n≤tpB m→tpAs l m n≤tpB m
 | [],m,n,_,_,h=>by simpa [tpAs] using h
 | .mk t _ _::l,m,n,h,h1,hn=>by
   simp only [tpAs]
   split
   ·rename_i hle
    have:=tp_bnd t (m - n) h.1
    have:=tpB_step h1 hle
    exact tp_bndAs l m _ h.2 (by omega) (by omega)
   ·exact hn
theorem tp_bndOs : ∀ (l : List Ob) (m n : Nat),dlOs l→1≤n→n≤tpB m→tpOs l m n≤tpB m
 | [],m,n,_,_,h=>by simpa [tpOs] using h
 | .mk ns fs ms r::l,m,n,h,h1,hn=>by
   simp only [tpOs]
   split
   ·rename_i hle
    obtain ⟨⟨q1,q2,q3,q4⟩,q5⟩:=h
    have:=tp_bnd r (m - n) q4
    have:=tpB_step h1 hle
    have a:=tpTs_mono m fs (n+ns.length+ms.length+tpT r (m - n))
    have b:=tp_bndTs fs m (n+ns.length+ms.length+tpT r (m - n)) q3 (by omega) (by omega)
    exact tp_bndOs l m _ q5 (by omega) b
   ·exact hn
theorem tp_bndTs : ∀ (l : List Ty) (m n : Nat),dlTs l→1≤n→n≤tpB m→tpTs l m n≤tpB m
 | [],m,n,_,_,h=>by simpa [tpTs] using h
 | t::l,m,n,h,h1,hn=>by
   simp only [tpTs]
   split
   ·rename_i hle
    have:=tp_bnd t (m - n) h.1
    have:=tpB_step h1 hle
    exact tp_bndTs l m _ h.2 (by omega) (by omega)
   ·exact hn
end
theorem dlT_def (t : Ty) : dlT t↔t.nums.length≤140737488355328∧t.texts.length≤140737488355328∧dlAs t.arrays∧dlOs t.objects:=by cases t; exact Iff.rfl
theorem dlAs_iff : ∀ {l : List Arr},dlAs l↔∀ a ∈ l,dlT a.item
 | []=>by simp [dlAs]
 | .mk t lo hi::l=>by simp only [dlAs,List.mem_cons,forall_eq_or_imp,Arr.item_mk]; exact and_congr Iff.rfl dlAs_iff
theorem dlTs_iff : ∀ {l : List Ty},dlTs l↔∀ a ∈ l,dlT a
 | []=>by simp [dlTs]
 | t::l=>by simp only [dlTs,List.mem_cons,forall_eq_or_imp]; exact and_congr Iff.rfl dlTs_iff
theorem dlOs_iff : ∀ {l : List Ob},dlOs l↔∀ o ∈ l,o.names.length≤140737488355328∧o.must.length≤140737488355328∧(∀ f ∈ o.fields,dlT f)∧dlT o.rest
 | []=>by simp [dlOs]
 | .mk ns fs ms r::l=>by
   simp only [dlOs,List.mem_cons,forall_eq_or_imp,dlTs_iff,Ob.names_mk,Ob.must_mk,Ob.fields_mk,Ob.rest_mk]
   exact and_congr Iff.rfl dlOs_iff
mutual
theorem ht_sz : ∀ t : Ty,heightT t < szT t
 | .mk _ _ _ _ ns _ ts az os=>by
   have:=ht_szAs az
   have:=ht_szOs os
   simp only [heightT,szT]; omega
theorem ht_szAs : ∀ l : List Arr,heightAs l≤szAs l
 | []=>by simp [heightAs]
 | .mk t _ _::l=>by
   have:=ht_sz t
   have:=ht_szAs l
   simp only [heightAs,szAs]; omega
theorem ht_szOs : ∀ l : List Ob,heightOs l≤szOs l
 | []=>by simp [heightOs]
 | .mk ns fs ms r::l=>by
   have:=ht_sz r
   have:=ht_szTs fs
   have:=ht_szOs l
   simp only [heightOs,szOs]; omega
theorem ht_szTs : ∀ l : List Ty,heightTs l≤szTs l
 | []=>by simp [heightTs]
 | t::l=>by
   have:=ht_sz t
   have:=ht_szTs l
   simp only [heightTs,szTs]; omega
end
end Go.Tidy

/- Part 8. -/
import Derived.Test.YtjipnamfdmllmaaGreatDoorN7
import Derived.Test.YtjipnamfdmllmaaGreatDoorProg
import Derived.WalkKit
import Derived.WalkMore
import Derived.Below
import Derived.Shelf.Unicode.ValidAny
import Derived.Shelf.SlIter.Nil
import Derived.Shelf.SortM.Plain
import Derived.Shelf.SortM.SortNone
import Derived.Shelf.SlicesG.CompactS
import Derived.Shelf.Strconv.Itoa3
import Derived.Ground.GgzProg
import Derived.Ground.SlgmProg
import Derived.Ground.SlgnProg
import Derived.Ground.NamesProg
import Derived.Lib.ItoaLen
import Derived.Lib.AppendIntMem
import Derived.Sort.Grow
import Derived.Sort.EncStr
import Derived.Lib.SlicesCompact
import Derived.ScopeJumps
import Derived.Maps.Own
import Derived.Maps.Ext
import Derived.StringKeys
import Derived.Sort.KeysCollected
set_option linter.unusedSimpArgs false
set_option linter.unusedVariables false
namespace Go.Proofs.YtjipnamfdmllmaaGreatDoor.Pv
open Go Go.Tidy
def oInt:Ordering→Int
 | .lt=>-1
 | .eq=>0
 | .gt=>1
@[simp] theorem oInt_lt:oInt .lt=-1:=rfl
@[simp] theorem oInt_eq:oInt .eq=0:=rfl
@[simp] theorem oInt_gt:oInt .gt=1:=rfl
def bs (l:List UInt8):S:=⟨l.toArray⟩
@[simp] theorem bs_data (l:List UInt8):(bs l).data.toList=l:=by simp[bs]
@[simp] theorem bs_size (l:List UInt8):(bs l).size=l.length:=by simp[bs,ByteArray.size]
@[simp] theorem bs_get (l:List UInt8) (i:Nat):(bs l).data[i]? = l[i]? := by simp[bs]
@[simp] theorem bs_getE (l:List UInt8) (i:Nat) (h:i<(bs l).data.size):(bs l).data[i]=l[i]'(by simpa[bs] using h):=by simp[bs]
theorem u8_eq {c:UInt8} (d:UInt8):((c.toNat:Int)=(d.toNat:Int))↔c=d:=by rw[Int.natCast_inj]; exact UInt8.toNat_inj
@[simp] theorem u8_45 {c:UInt8}:((c.toNat:Int)=45)↔c=45:=u8_eq 45
@[simp] theorem u8_48 {c:UInt8}:((c.toNat:Int)=48)↔c=48:=u8_eq 48
@[simp] theorem u8_lt48 {c:UInt8}:((c.toNat:Int)<48)↔¬ 48≤c:=by rw[UInt8.le_iff_toNat_le]; simp; omega
@[simp] theorem u8_gt57 {c:UInt8}:(57<(c.toNat:Int))↔¬ c≤57:=by rw[UInt8.le_iff_toNat_le]; simp; omega
theorem strLt_eq (a b:S):strLt a b=sLt a b:=rfl
theorem strEq_eq (a b:S):strEq a b=sEq a b:=rfl
attribute [simp] strLt_eq strEq_eq
end Go.Proofs.YtjipnamfdmllmaaGreatDoor.Pv
namespace Go.Proofs.YtjipnamfdmllmaaGreatDoor.Pv
open Go Go.Tidy
open Classical in
noncomputable def eqv {α:Type} (a b:α):Bool:=decide (a=b)
theorem eqv_true {α:Type} {a b:α} (h:a=b):eqv a b=true:=by simp[eqv,h]
theorem eqv_false {α:Type} {a b:α} (h:a≠b):eqv a b=false:=by simp[eqv,h]
theorem take_eq {α:Type} {a b:List α} {i:Nat} (h1:i<a.length) (h2:i<b.length) (h:a.take i=b.take i) (he:a[i]=b[i]):a.take (i+1)=b.take (i+1):=by
 rw[List.take_add_one,List.take_add_one,h,List.getElem?_eq_getElem h1,List.getElem?_eq_getElem h2,he]
theorem ne_at {α:Type} {a b:List α} {i:Nat} (h1:i<a.length) (h2:i<b.length) (he:a[i]≠b[i]):a≠b:=fun h=>by subst h; exact he rfl
theorem c_kit_SameStrings (a b:List S):Ret prog M.F_kit_SameStrings [.vec 1 false (a.map encStr),.vec 1 false (b.map encStr)] (.bool (eqv a b)):=by
 refine Ret.go hmix h_kit_SameStrings (by simp) fun hb w0 F0 hG=>?_
 simp only[bndL,bndV,List.length_map,LIM,and_true] at hb
 by_cases hl:a.length=b.length
 ·simp[hl]
  obtain⟨J,hJ⟩ : ∃ J:Nat→Unit→Prop,J=fun i _=>a.take i=b.take i:=⟨_,rfl⟩
  refine XLoop.cnt hmix a.length (fun i _=>⟨[(5,.int .i64 i),(0,.vec 1 false (a.map encStr)),(1,.vec 1 false (b.map encStr)),(4,.bool false)],[]⟩) J () (by simp[hJ]) (by simp) fun i _ hi hj=>?_
  have hw:=wrap64 (n:=(i:Int)+1) (by omega) (by omega)
  have hj' : a.take i=b.take i:=by subst hJ; exact hj
  by_cases h1:i<a.length
  ·have h2:i<b.length:=by omega
   simp[h1,h2,hl ▸ h1,hw]
   exact⟨fun h=>eqv_false (ne_at h1 h2 (fun e=>by rw[sEq_iff.2 e] at h; cases h)),fun h=>⟨(),by subst hJ; exact take_eq h1 h2 hj' (sEq_iff.1 h)⟩⟩
  ·have e:i=a.length:=by omega
   subst e
   rw[List.take_length,hl,List.take_length] at hj'
   simp[hl]
   exact eqv_true hj'
 ·have:a≠b:=fun h=>hl (by rw[h])
  have hl' : ¬ ((a.length:Int)=b.length):=by omega
  simp[hl',eqv_false this]
end Go.Proofs.YtjipnamfdmllmaaGreatDoor.Pv
namespace Go.Proofs.YtjipnamfdmllmaaGreatDoor.Pv
open Go Go.Tidy
section
variable {α:Type} {g:α→α→Ordering} {a b:List α} {i:Nat}
theorem lex_step (h1:i<a.length) (h2:i<b.length):lexC g (a.drop i) (b.drop i)=(g a[i] b[i]).then (lexC g (a.drop (i+1)) (b.drop (i+1))):=by
 rw[List.drop_eq_getElem_cons h1,List.drop_eq_getElem_cons h2]; rfl
end
theorem then_ne {p q:Ordering} (h:p≠.eq):p.then q=p:=by cases p<;>simp_all [Ordering.then]
theorem then_e {p q:Ordering} (h:p=.eq):p.then q=q:=by subst h; rfl
end Go.Proofs.YtjipnamfdmllmaaGreatDoor.Pv
namespace Go.Proofs.YtjipnamfdmllmaaGreatDoor.Pv
open Go Go.Tidy
end Go.Proofs.YtjipnamfdmllmaaGreatDoor.Pv
set_option maxRecDepth 100000
namespace Go.Proofs.YtjipnamfdmllmaaGreatDoor.Pv
open Go Go.Tidy
def encInt (n:Int):List PV:=[.int .i64 n]
attribute [simp] encInt
theorem sEq_emp (a:S):sEq a ⟨#[]⟩=sEmp a:=by
 rw[Bool.eq_iff_iff,sEq_iff,sEmp_iff]; rfl
attribute [simp] sEq_emp
end Go.Proofs.YtjipnamfdmllmaaGreatDoor.Pv
namespace Go.Proofs.YtjipnamfdmllmaaGreatDoor.Pv
open Go Go.Tidy
end Go.Proofs.YtjipnamfdmllmaaGreatDoor.Pv
set_option maxRecDepth 100000
namespace Go.Proofs.YtjipnamfdmllmaaGreatDoor.Pv
open Go Go.Tidy
end Go.Proofs.YtjipnamfdmllmaaGreatDoor.Pv
set_option maxRecDepth 100000
namespace Go.Proofs.YtjipnamfdmllmaaGreatDoor.Pv
open Go Go.Tidy
def Upto {α:Type} (g:α→α→Ordering) (r:Ordering) (a b:List α) (i:Nat) (p:Ordering):Prop :=
 (p=.eq→r=.eq∧lexC g a b=lexC g (a.drop i) (b.drop i))∧(p≠.eq→p=r.then (lexC g a b))
theorem Upto.step {α:Type} {g:α→α→Ordering} {r:Ordering} {a b:List α} {i:Nat} (h:Upto g r a b i .eq) (h1:i<a.length) (h2:i<b.length):Upto g r a b (i+1) (g a[i] b[i]):=by
 obtain⟨hr,hl⟩:=h.1 rfl
 refine⟨fun h=>⟨hr,by rw[hl,lex_step h1 h2,then_e h]⟩,fun h=>by rw[then_e hr,hl,lex_step h1 h2,then_ne h]⟩
end Go.Proofs.YtjipnamfdmllmaaGreatDoor.Pv
set_option maxRecDepth 100000
namespace Go.Proofs.YtjipnamfdmllmaaGreatDoor.Pv
open Go Go.Tidy
theorem u8_le {c d:UInt8}:((c.toNat:Int)≤(d.toNat:Int))↔c≤d:=by rw[UInt8.le_iff_toNat_le]; omega
theorem u8_lt {c d:UInt8}:((c.toNat:Int)<(d.toNat:Int))↔c<d:=by rw[UInt8.lt_iff_toNat_lt]; omega
@[simp] theorem u8_lt128 {c:UInt8}:((c.toNat:Int)<128)↔c<128:=u8_lt (d:=128)
@[simp] theorem u8_gt191 {c:UInt8}:(191<(c.toNat:Int))↔191<c:=u8_lt (c:=191)
@[simp] theorem u8_e224 {c:UInt8}:((c.toNat:Int)=224)↔c=224:=u8_eq 224
@[simp] theorem u8_e237 {c:UInt8}:((c.toNat:Int)=237)↔c=237:=u8_eq 237
@[simp] theorem u8_e240 {c:UInt8}:((c.toNat:Int)=240)↔c=240:=u8_eq 240
@[simp] theorem u8_e244 {c:UInt8}:((c.toNat:Int)=244)↔c=244:=u8_eq 244
@[simp] theorem u8_ge194 {c:UInt8}:(194≤(c.toNat:Int))↔194≤c:=u8_le (c:=194)
@[simp] theorem u8_ge224 {c:UInt8}:(224≤(c.toNat:Int))↔224≤c:=u8_le (c:=224)
@[simp] theorem u8_ge240 {c:UInt8}:(240≤(c.toNat:Int))↔240≤c:=u8_le (c:=240)
@[simp] theorem u8_le223 {c:UInt8}:((c.toNat:Int)≤223)↔c≤223:=u8_le (d:=223)
@[simp] theorem u8_le239 {c:UInt8}:((c.toNat:Int)≤239)↔c≤239:=u8_le (d:=239)
@[simp] theorem u8_le244 {c:UInt8}:((c.toNat:Int)≤244)↔c≤244:=u8_le (d:=244)
end Go.Proofs.YtjipnamfdmllmaaGreatDoor.Pv
set_option maxRecDepth 100000
namespace Go.Proofs.YtjipnamfdmllmaaGreatDoor.Pv
open Go Go.Tidy
def RiseTo (l:List S) (i:Nat):Prop:=∀ j (hj:j<l.length),j<i→utfB l[j]=true∧∀ h:0<j,sLt (l[j-1]'(by omega)) l[j]=true
theorem RiseTo.step {l:List S} {i:Nat} (h:RiseTo l i) (hi:i<l.length) (h1:utfB l[i]=true) (h2:∀ h:0<i,sLt (l[i-1]'(by omega)) l[i]=true):RiseTo l (i+1):=by
 intro j hj hlt
 by_cases e:j=i
 ·subst e; exact⟨h1,h2⟩
 ·exact h j hj (by omega)
end Go.Proofs.YtjipnamfdmllmaaGreatDoor.Pv
set_option maxRecDepth 100000
namespace Go.Proofs.YtjipnamfdmllmaaGreatDoor.Pv
open Go Go.Tidy
def AllTo {α:Type} (p:α→Bool) (l:List α) (k:Nat):Prop:=∀ j (hj:j<l.length),j<k→p l[j]=true
theorem AllTo.zero {α:Type} {p:α→Bool} {l:List α}:AllTo p l 0:=fun _ _ h=>absurd h (by omega)
theorem AllTo.step {α:Type} {p:α→Bool} {l:List α} {k:Nat} (h:AllTo p l k) (hk:k<l.length) (hp:p l[k]=true):AllTo p l (k+1):=fun j hj hlt=>by
 by_cases e:j=k
 ·subst e; exact hp
 ·exact h j hj (by omega)
theorem AllTo.all {α:Type} {p:α→Bool} {l:List α} {k:Nat} (h:AllTo p l k) (hk:¬ k<l.length):l.all p=true:=by
 rw[List.all_eq_true]
 intro x hx
 obtain⟨j,hj,rfl⟩:=List.getElem_of_mem hx
 exact h j hj (by omega)
end Go.Proofs.YtjipnamfdmllmaaGreatDoor.Pv
namespace Go.Proofs.YtjipnamfdmllmaaGreatDoor
open Go Go.RowKit Go.Maps Go.Sort Go.Shelf
def Tryz.keysA_ren:Go.Shelf.Ren:=⟨fun|7=>13|10=>26|n=>n,fun|23=>37|26=>9|3=>39|28=>35|0=>0|27=>34|33=>55|4=>4|n=>n,fun|n=>n⟩
theorem Tryz.keysA:Go.Proofs.SlLaysZ.n7 Tryz.prog Tryz.keysA_ren:={
 mixed:=by kernel_rfl
 f7:=⟨Tryz.f13.name,by decide,Tryz.func13.trans (congrArg some (by kernel_rfl))⟩
 f10:=⟨Tryz.f26.name,by decide,Tryz.func26.trans (congrArg some (by kernel_rfl))⟩
 t0:=Tryz.underlying0
 a0:=Tryz.isAgg0
 z0:=Tryz.sizeOf0
 v0:=Tryz.zeroValue0
 t4:=Tryz.underlying4
 a4:=Tryz.isAgg4
 z4:=Tryz.sizeOf4
 v4:=Tryz.zeroValue4
 t23:=Tryz.underlying37
 a23:=Tryz.isAgg37
 z23:=Tryz.sizeOf37
 v23:=Tryz.zeroValue37
 t26:=Tryz.underlying9
 a26:=Tryz.isAgg9
 z26:=Tryz.sizeOf9
 v26:=Tryz.zeroValue9
 t27:=Tryz.underlying34
 a27:=Tryz.isAgg34
 z27:=Tryz.sizeOf34
 v27:=Tryz.zeroValue34
 t28:=Tryz.underlying35
 a28:=Tryz.isAgg35
 z28:=Tryz.sizeOf35
 v28:=Tryz.zeroValue35
 t33:=Tryz.underlying55
 a33:=Tryz.isAgg55
 z33:=Tryz.sizeOf55
 v33:=Tryz.zeroValue55 }
def Tryz.sortedA_ren:Go.Shelf.Ren:=⟨fun|6=>12|8=>24|9=>25|11=>78|13=>80|12=>79|23=>139|24=>140|14=>130|15=>131|16=>132|17=>133|18=>134|19=>135|20=>136|21=>137|22=>138|25=>189|26=>190|27=>191|28=>192|29=>193|30=>194|31=>241|n=>n,fun|26=>9|28=>35|24=>24|0=>0|3=>3|37=>67|48=>131|50=>133|4=>4|40=>124|39=>123|45=>128|5=>5|9=>9|51=>196|55=>200|57=>237|58=>238|33=>55|n=>n,fun|n=>n⟩
theorem Tryz.sortedA:Go.Proofs.SlLaysZ.n6 Tryz.prog Tryz.sortedA_ren:={
 mixed:=by kernel_rfl
 f6:=⟨Tryz.f12.name,by decide,Tryz.func12.trans (congrArg some (by kernel_rfl))⟩
 f8:=⟨Tryz.f24.name,by decide,Tryz.func24.trans (congrArg some (by kernel_rfl))⟩
 f11:=⟨Tryz.f78.name,by decide,Tryz.func78.trans (congrArg some (by kernel_rfl))⟩
 t0:=Tryz.underlying0
 a0:=Tryz.isAgg0
 z0:=Tryz.sizeOf0
 v0:=Tryz.zeroValue0
 t24:=Tryz.underlying24
 a24:=Tryz.isAgg24
 z24:=Tryz.sizeOf24
 v24:=Tryz.zeroValue24
 t26:=Tryz.underlying9
 a26:=Tryz.isAgg9
 z26:=Tryz.sizeOf9
 v26:=Tryz.zeroValue9
 t28:=Tryz.underlying35
 a28:=Tryz.isAgg35
 z28:=Tryz.sizeOf35
 v28:=Tryz.zeroValue35
 i26:=by kernel_rfl }
def Tryz.sortA_ren:Go.Shelf.Ren:=⟨fun|6=>25|8=>80|9=>79|19=>139|20=>140|21=>130|22=>131|23=>132|24=>133|25=>134|26=>135|27=>136|28=>137|29=>138|36=>189|31=>190|32=>191|37=>192|38=>193|39=>194|41=>241|n=>n,fun|27=>24|29=>9|3=>3|32=>67|26=>24|0=>0|44=>131|46=>133|4=>4|36=>124|35=>123|41=>128|5=>5|9=>9|53=>196|57=>200|63=>237|64=>238|n=>n,fun|n=>n⟩
theorem Tryz.sortA:Go.Proofs.SlLaysM.n6 Tryz.prog Tryz.sortA_ren:={
 mixed:=by kernel_rfl
 f6:=⟨Tryz.f25.name,by decide,Tryz.func25.trans (congrArg some (by kernel_rfl))⟩
 f8:=Tryz.func80.trans (congrArg some (by kernel_rfl))
 f9:=⟨Tryz.f79.name,by decide,Tryz.func79.trans (congrArg some (by kernel_rfl))⟩
 f19:=Tryz.func139.trans (congrArg some (by kernel_rfl))
 f20:=Tryz.func140.trans (congrArg some (by kernel_rfl))
 f21:=⟨Tryz.f130.name,by decide,Tryz.func130.trans (congrArg some (by kernel_rfl))⟩
 f22:=⟨Tryz.f131.name,by decide,Tryz.func131.trans (congrArg some (by kernel_rfl))⟩
 f23:=⟨Tryz.f132.name,by decide,Tryz.func132.trans (congrArg some (by kernel_rfl))⟩
 f24:=⟨Tryz.f133.name,by decide,Tryz.func133.trans (congrArg some (by kernel_rfl))⟩
 f25:=⟨Tryz.f134.name,by decide,Tryz.func134.trans (congrArg some (by kernel_rfl))⟩
 f26:=⟨Tryz.f135.name,by decide,Tryz.func135.trans (congrArg some (by kernel_rfl))⟩
 f27:=⟨Tryz.f136.name,by decide,Tryz.func136.trans (congrArg some (by kernel_rfl))⟩
 f28:=⟨Tryz.f137.name,by decide,Tryz.func137.trans (congrArg some (by kernel_rfl))⟩
 f29:=⟨Tryz.f138.name,by decide,Tryz.func138.trans (congrArg some (by kernel_rfl))⟩
 f31:=Tryz.func190.trans (congrArg some (by kernel_rfl))
 f32:=Tryz.func191.trans (congrArg some (by kernel_rfl))
 f36:=⟨Tryz.f189.name,by decide,Tryz.func189.trans (congrArg some (by kernel_rfl))⟩
 f37:=⟨Tryz.f192.name,by decide,Tryz.func192.trans (congrArg some (by kernel_rfl))⟩
 f38:=⟨Tryz.f193.name,by decide,Tryz.func193.trans (congrArg some (by kernel_rfl))⟩
 f39:=⟨Tryz.f194.name,by decide,Tryz.func194.trans (congrArg some (by kernel_rfl))⟩
 f41:=⟨Tryz.f241.name,by decide,Tryz.func241.trans (congrArg some (by kernel_rfl))⟩
 t0:=Tryz.underlying0
 a0:=Tryz.isAgg0
 z0:=Tryz.sizeOf0
 v0:=Tryz.zeroValue0
 t3:=Tryz.underlying3
 a3:=Tryz.isAgg3
 z3:=Tryz.sizeOf3
 v3:=Tryz.zeroValue3
 t4:=Tryz.underlying4
 a4:=Tryz.isAgg4
 z4:=Tryz.sizeOf4
 v4:=Tryz.zeroValue4
 t5:=Tryz.underlying5
 a5:=Tryz.isAgg5
 z5:=Tryz.sizeOf5
 v5:=Tryz.zeroValue5
 t9:=Tryz.underlying9
 a9:=Tryz.isAgg9
 z9:=Tryz.sizeOf9
 v9:=Tryz.zeroValue9
 t26:=Tryz.underlying24
 a26:=Tryz.isAgg24
 z26:=Tryz.sizeOf24
 v26:=Tryz.zeroValue24
 t27:=Tryz.underlying24
 a27:=Tryz.isAgg24
 z27:=Tryz.sizeOf24
 v27:=Tryz.zeroValue24
 t29:=Tryz.underlying9
 a29:=Tryz.isAgg9
 z29:=Tryz.sizeOf9
 v29:=Tryz.zeroValue9
 t32:=Tryz.underlying67
 a32:=Tryz.isAgg67
 z32:=Tryz.sizeOf67
 v32:=Tryz.zeroValue67
 t35:=Tryz.underlying123
 a35:=Tryz.isAgg123
 z35:=Tryz.sizeOf123
 v35:=Tryz.zeroValue123
 t36:=Tryz.underlying124
 a36:=Tryz.isAgg124
 z36:=Tryz.sizeOf124
 v36:=Tryz.zeroValue124
 t41:=Tryz.underlying128
 a41:=Tryz.isAgg128
 z41:=Tryz.sizeOf128
 v41:=Tryz.zeroValue128
 t44:=Tryz.underlying131
 a44:=Tryz.isAgg131
 z44:=Tryz.sizeOf131
 v44:=Tryz.zeroValue131
 t46:=Tryz.underlying133
 a46:=Tryz.isAgg133
 z46:=Tryz.sizeOf133
 v46:=Tryz.zeroValue133
 t53:=Tryz.underlying196
 a53:=Tryz.isAgg196
 z53:=Tryz.sizeOf196
 v53:=Tryz.zeroValue196
 t57:=Tryz.underlying200
 a57:=Tryz.isAgg200
 z57:=Tryz.sizeOf200
 v57:=Tryz.zeroValue200
 t63:=Tryz.underlying237
 a63:=Tryz.isAgg237
 z63:=Tryz.sizeOf237
 v63:=Tryz.zeroValue237
 t64:=Tryz.underlying238
 a64:=Tryz.isAgg238
 z64:=Tryz.sizeOf238
 v64:=Tryz.zeroValue238 }
def Tryz.laysValid_ren:Go.Shelf.Ren:=⟨fun|196=>127|259=>188|n=>n,fun|9=>9|4=>4|3=>3|5=>5|12=>12|119=>192|0=>0|46=>67|139=>195|138=>194|53=>133|n=>n,fun|3=>0|4=>1|n=>n⟩
theorem Tryz.laysValid:Go.Proofs.Lays.n196 Tryz.prog Tryz.laysValid_ren:={
 mixed:=by kernel_rfl
 f196:=Tryz.func127.trans (congrArg some (by kernel_rfl))
 f259:=Tryz.func188.trans (congrArg some (by kernel_rfl))
 t0:=Tryz.underlying0
 a0:=Tryz.isAgg0
 z0:=Tryz.sizeOf0
 v0:=Tryz.zeroValue0
 t3:=Tryz.underlying3
 a3:=Tryz.isAgg3
 z3:=Tryz.sizeOf3
 v3:=Tryz.zeroValue3
 t4:=Tryz.underlying4
 a4:=Tryz.isAgg4
 z4:=Tryz.sizeOf4
 v4:=Tryz.zeroValue4
 t5:=Tryz.underlying5
 a5:=Tryz.isAgg5
 z5:=Tryz.sizeOf5
 v5:=Tryz.zeroValue5
 t9:=Tryz.underlying9
 a9:=Tryz.isAgg9
 z9:=Tryz.sizeOf9
 v9:=Tryz.zeroValue9
 t12:=Tryz.underlying12
 a12:=Tryz.isAgg12
 z12:=Tryz.sizeOf12
 v12:=Tryz.zeroValue12
 t46:=Tryz.underlying67
 a46:=Tryz.isAgg67
 z46:=Tryz.sizeOf67
 v46:=Tryz.zeroValue67
 t53:=Tryz.underlying133
 a53:=Tryz.isAgg133
 z53:=Tryz.sizeOf133
 v53:=Tryz.zeroValue133
 t119:=Tryz.underlying192
 a119:=Tryz.isAgg192
 z119:=Tryz.sizeOf192
 t138:=Tryz.underlying194
 a138:=Tryz.isAgg194
 z138:=Tryz.sizeOf194
 v138:=Tryz.zeroValue194
 t139:=Tryz.underlying195
 a139:=Tryz.isAgg195
 z139:=Tryz.sizeOf195
 v139:=Tryz.zeroValue195
 g3:=by kernel_rfl
 g4:=by kernel_rfl }
def Tryz.laysItoa_ren:Go.Shelf.Ren:=⟨fun|171=>16|243=>67|246=>126|283=>184|284=>185|285=>186|286=>187|129=>140|317=>237|318=>238|319=>239|320=>240|337=>285|338=>286|n=>n,fun|3=>3|9=>9|2=>2|4=>4|171=>187|0=>0|53=>133|37=>107|5=>5|173=>189|212=>235|51=>131|20=>20|213=>236|46=>67|232=>286|233=>287|n=>n,fun|17=>2|18=>4|19=>5|n=>n⟩
theorem Tryz.laysItoa:Go.Proofs.LaysM.n171 Tryz.prog Tryz.laysItoa_ren:={
 mixed:=by kernel_rfl
 f129:=Tryz.func140.trans (congrArg some (by kernel_rfl))
 f171:=Tryz.func16.trans (congrArg some (by kernel_rfl))
 f243:=Tryz.func67.trans (congrArg some (by kernel_rfl))
 f246:=Tryz.func126.trans (congrArg some (by kernel_rfl))
 f283:=Tryz.func184.trans (congrArg some (by kernel_rfl))
 f284:=Tryz.func185.trans (congrArg some (by kernel_rfl))
 f285:=Tryz.func186.trans (congrArg some (by kernel_rfl))
 f286:=Tryz.func187.trans (congrArg some (by kernel_rfl))
 f317:=Tryz.func237.trans (congrArg some (by kernel_rfl))
 f318:=Tryz.func238.trans (congrArg some (by kernel_rfl))
 f319:=Tryz.func239.trans (congrArg some (by kernel_rfl))
 f320:=Tryz.func240.trans (congrArg some (by kernel_rfl))
 f337:=Tryz.func285.trans (congrArg some (by kernel_rfl))
 f338:=Tryz.func286.trans (congrArg some (by kernel_rfl))
 t0:=Tryz.underlying0
 a0:=Tryz.isAgg0
 z0:=Tryz.sizeOf0
 v0:=Tryz.zeroValue0
 t2:=Tryz.underlying2
 a2:=Tryz.isAgg2
 z2:=Tryz.sizeOf2
 v2:=Tryz.zeroValue2
 t3:=Tryz.underlying3
 a3:=Tryz.isAgg3
 z3:=Tryz.sizeOf3
 v3:=Tryz.zeroValue3
 t4:=Tryz.underlying4
 a4:=Tryz.isAgg4
 z4:=Tryz.sizeOf4
 v4:=Tryz.zeroValue4
 t5:=Tryz.underlying5
 a5:=Tryz.isAgg5
 z5:=Tryz.sizeOf5
 v5:=Tryz.zeroValue5
 t9:=Tryz.underlying9
 a9:=Tryz.isAgg9
 z9:=Tryz.sizeOf9
 v9:=Tryz.zeroValue9
 t20:=Tryz.underlying20
 a20:=Tryz.isAgg20
 z20:=Tryz.sizeOf20
 v20:=Tryz.zeroValue20
 t37:=Tryz.underlying107
 a37:=Tryz.isAgg107
 z37:=Tryz.sizeOf107
 v37:=Tryz.zeroValue107
 t46:=Tryz.underlying67
 a46:=Tryz.isAgg67
 z46:=Tryz.sizeOf67
 v46:=Tryz.zeroValue67
 t51:=Tryz.underlying131
 a51:=Tryz.isAgg131
 z51:=Tryz.sizeOf131
 v51:=Tryz.zeroValue131
 t53:=Tryz.underlying133
 a53:=Tryz.isAgg133
 z53:=Tryz.sizeOf133
 v53:=Tryz.zeroValue133
 t171:=Tryz.underlying187
 a171:=Tryz.isAgg187
 z171:=Tryz.sizeOf187
 v171:=Tryz.zeroValue187
 t173:=Tryz.underlying189
 a173:=Tryz.isAgg189
 z173:=Tryz.sizeOf189
 v173:=Tryz.zeroValue189
 t212:=Tryz.underlying235
 a212:=Tryz.isAgg235
 z212:=Tryz.sizeOf235
 v212:=Tryz.zeroValue235
 t213:=Tryz.underlying236
 a213:=Tryz.isAgg236
 z213:=Tryz.sizeOf236
 t232:=Tryz.underlying286
 a232:=Tryz.isAgg286
 z232:=Tryz.sizeOf286
 v232:=Tryz.zeroValue286
 t233:=Tryz.underlying287
 a233:=Tryz.isAgg287
 z233:=Tryz.sizeOf287
 v233:=Tryz.zeroValue287
 g17:=by kernel_rfl
 g18:=by kernel_rfl
 g19:=by kernel_rfl
 i0:=by kernel_rfl
 i2:=by kernel_rfl
 i3:=by kernel_rfl
 i4:=by kernel_rfl
 i5:=by kernel_rfl
 i9:=by kernel_rfl
 i20:=by kernel_rfl
 i37:=by kernel_rfl
 i46:=by kernel_rfl
 i51:=by kernel_rfl
 i53:=by kernel_rfl
 i171:=by kernel_rfl
 i173:=by kernel_rfl
 i212:=by kernel_rfl
 i232:=by kernel_rfl
 i233:=by kernel_rfl
 m17:=by kernel_rfl
 m18:=by kernel_rfl
 m19:=by kernel_rfl }
end Go.Proofs.YtjipnamfdmllmaaGreatDoor
set_option maxRecDepth 100000
namespace Go.Proofs.YtjipnamfdmllmaaGreatDoor.Pv
open Go Go.RowKit
def refN:List ByteArray:=[⟨#[95,103,114,111,117,112,95,98,121,47,49]⟩,⟨#[95,109,97,120,95,98,121,47,49]⟩,⟨#[95,109,105,110,95,98,121,47,49]⟩,⟨#[95,115,111,114,116,95,98,121,47,49]⟩,⟨#[95,117,110,105,113,117,101,95,98,121,47,49]⟩,⟨#[97,98,115,47,48]⟩,⟨#[97,100,100,47,48]⟩,⟨#[97,115,99,105,105,95,100,111,119,110,99,97,115,101,47,48]⟩,⟨#[97,115,99,105,105,95,117,112,99,97,115,101,47,48]⟩,⟨#[99,111,110,116,97,105,110,115,47,49]⟩,⟨#[100,101,108,112,97,116,104,115,47,49]⟩,⟨#[101,110,100,115,119,105,116,104,47,49]⟩,⟨#[101,120,112,108,111,100,101,47,48]⟩,⟨#[102,108,97,116,116,101,110,47,48]⟩,⟨#[102,114,111,109,106,115,111,110,47,48]⟩,⟨#[103,101,116,112,97,116,104,47,49]⟩,⟨#[104,97,115,47,49]⟩,⟨#[105,109,112,108,111,100,101,47,48]⟩,⟨#[105,110,100,105,99,101,115,47,49]⟩,⟨#[106,111,105,110,47,49]⟩,⟨#[107,101,121,115,47,48]⟩,⟨#[108,101,110,103,116,104,47,48]⟩,⟨#[108,116,114,105,109,115,116,114,47,49]⟩,⟨#[109,97,120,47,48]⟩,⟨#[109,105,110,47,48]⟩,⟨#[110,111,116,47,48]⟩,⟨#[114,101,118,101,114,115,101,47,48]⟩,⟨#[114,116,114,105,109,115,116,114,47,49]⟩,⟨#[115,101,116,112,97,116,104,47,50]⟩,⟨#[115,111,114,116,47,48]⟩,⟨#[115,112,108,105,116,47,49]⟩,⟨#[115,116,97,114,116,115,119,105,116,104,47,49]⟩,⟨#[116,111,97,114,114,97,121,47,48]⟩,⟨#[116,111,106,115,111,110,47,48]⟩,⟨#[116,111,110,117,109,98,101,114,47,48]⟩,⟨#[116,111,115,116,114,105,110,103,47,48]⟩,⟨#[116,114,97,110,115,112,111,115,101,47,48]⟩,⟨#[116,121,112,101,47,48]⟩,⟨#[117,110,105,113,117,101,47,48]⟩,⟨#[117,116,102,56,98,121,116,101,108,101,110,103,116,104,47,48]⟩]
def itoaS (n:Int):ByteArray:=⟨(Lib.itoa n).toArray⟩
def keyS (s:ByteArray) (n:Int):ByteArray:=s++⟨#[47]⟩++itoaS n
theorem pow_there:(prog.globalNamed "internal/strconv.uint64pow10").isSome=true:=by kernel_rfl
theorem c_strconv_Itoa (n:Int):Ret prog M.F_strconv_Itoa [.int .i64 n] (.str (itoaS n)):=by
 refine⟨by kernel_rfl,fun w F vs hG hF hr=>?_⟩
 obtain⟨v,us,rfl,hv,hus⟩:=hr
 obtain rfl:us=[]:=hus
 obtain⟨rfl,h0,h1⟩:=hv
 simp[IntKind.min,IntKind.max,IntKind.signed,IntKind.bits] at h0 h1
 obtain⟨g,hg⟩:=Option.isSome_iff_exists.1 pow_there
 obtain⟨_,_,ht⟩:=hG.2 _ (List.mem_cons_self ..) g hg
 have h:Calls prog M.F_strconv_Itoa #[.int .i64 n] w _:=Any.strconv_Itoa Tryz.laysItoa n (by omega) (by omega) w ht
 refine Calls.mono h ?_
 rintro e w' ⟨rfl,k,os,rfl⟩
 have hb:=Lib.below_grow w.heap.size w (Nat.le_refl _) k os
 refine⟨_,F,rfl,Bel.of hb,fun _ h=>h,fun b hb'=>⟨Nat.lt_of_lt_of_le (hF b hb') hb.size,.inl hb'⟩,⟨rfl,?_⟩⟩
 have:=Lib.itoa_length_le n (by omega) (by omega)
 show (Lib.itoa n).toArray.size≤LIM
 simp[LIM]; omega
theorem itoaS_size {n:Int} (h0 : -9223372036854775808≤n) (h1:n≤9223372036854775807):(itoaS n).size≤21:=by
 have:=Lib.itoa_length_le n h0 h1
 show (Lib.itoa n).toArray.size≤21
 simpa using this
theorem c_prim_key (s:ByteArray) (n:Int) (hs:s.size≤140737488355000):Ret prog M.F_prim_key [.str s,.int .i64 n] (.str (keyS s n)):=by
 have c1:=c_strconv_Itoa n
 refine Ret.go hmix h_prim_key (by simp) fun hb w0 F0 hG=>?_
 simp[bndL,bndV,IntKind.min,IntKind.max,IntKind.signed,IntKind.bits] at hb
 have hi:=itoaS_size (n:=n) (by omega) (by omega)
 unfold keyS
 simp
 refine⟨by show s.size+1≤LIM; simp[LIM]; omega,?_⟩
 refine XCall.ret (by first|exact c1|(simpa using c1)) ?_
 simp
 have e1:(s++{ data:=#[47] }:ByteArray).size=s.size+1:=by simp; rfl
 simp[LIM]
 have e2:({ data:=#[47] }:ByteArray).size=1:=rfl
 rw[e2]; omega
def hasF (s:ByteArray) (es:List (ByteArray × Nat)):Bool:=es.any fun p=>strEq p.1 s
theorem lookF_has (s:ByteArray):∀ es:List (ByteArray × Nat),∃ x,lookF s es=.tup [x,.bool (hasF s es)]
 | []=>⟨_,rfl⟩
 | (k,f)::es=>by
   have e1:hasF s ((k,f)::es)=(strEq k s||hasF s es):=rfl
   have e2:lookF s ((k,f)::es)=if strEq k s=true then .tup [.fn f [] [],.bool true] else lookF s es:=rfl
   rw[e1,e2]
   by_cases h:strEq k s=true
   ·exact⟨.fn f [] [],by rw[if_pos h,h]; rfl⟩
   ·obtain⟨x,hx⟩:=lookF_has s es
    refine⟨x,?_⟩
    rw[if_neg h,hx]
    rw[Bool.not_eq_true] at h
    rw[h]; rfl
theorem c_prim_Is (s:ByteArray) (n:Int) (hs:s.size≤140737488355000):Ret prog M.F_prim_Is [.str s,.int .i64 n] (.bool (hasF (keyS s n) primT)):=by
 have c1:=c_prim_table
 have c2:=c_prim_key s n hs
 refine Ret.go hmix h_prim_Is (by simp) fun hb w0 F0 hG=>?_
 obtain⟨x,hx⟩:=lookF_has (keyS s n) primT
 generalize keyS s n=k at *
 generalize primT=T at *
 generalize hasF k T=B at *
 simp
 refine XCall.ret (by first|exact c1|(simpa using c1)) ?_
 simp
 refine XCall.ret (by first|exact c2|(simpa using c2)) ?_
 simp[hx]
theorem c_ref21_Names:RetO prog M.F_ref21_Names [] 1 (refN.map encStr):=by
 refine RetO.go hmix h_ref21_Names (by simp) fun hb w0 F0 hG=>?_
 simp[refN]
set_option maxHeartbeats 4000000 in
theorem c_ref21_Is (s:ByteArray) (n:Int) (hs:s.size≤140737488355000):Ret prog M.F_ref21_Is [.str s,.int .i64 n] (.bool (refN.any fun x=>strEq x (keyS s n))):=by
 have c1:=c_strconv_Itoa n
 have c2:=c_ref21_Names
 refine Ret.go hmix h_ref21_Is (by simp) fun hb w0 F0 hG=>?_
 simp[bndL,bndV,IntKind.min,IntKind.max,IntKind.signed,IntKind.bits] at hb
 have hi:=itoaS_size (n:=n) (by omega) (by omega)
 have e2:({ data:=#[47] }:ByteArray).size=1:=rfl
 have hl:refN.length≤1000:=by decide
 have z1:s.size+({ data:=#[47] }:ByteArray).size≤LIM:=by rw[e2]; simp[LIM]; omega
 have z2:s.size+({ data:=#[47] }:ByteArray).size+(itoaS n).size≤LIM:=by rw[e2]; simp[LIM]; omega
 generalize refN=L at *
 have hK:keyS s n=s++⟨#[47]⟩++itoaS n:=rfl
 generalize hB:(L.any fun x=>strEq x (keyS s n))=B
 obtain⟨J,hJ⟩ : ∃ J:Nat→Unit→Prop,J=fun k _=>AllTo (fun x=>!strEq x (keyS s n)) L k:=⟨_,rfl⟩
 simp
 refine XCall.retO (by simpa using c2) ?_
 simp
 intro v
 refine⟨z1,?_⟩
 refine XCall.ret (by first|exact c1|(simpa using c1)) ?_
 simp
 refine⟨by simpa using z2,?_⟩
 rw[← hK]
 generalize keyS s n=K at *
 refine XLoop.cnt hmix L.length (fun k (_:Unit)=>⟨[(7,.int .i64 k),(6,.str K),(5,.own (8,v) 1 0 L.length false),(4,.bool false)],[((8,v),some ⟨1,L.map encStr,false,false⟩)]⟩) J () (by rw[hJ]; exact .zero) (by simp) fun k _ hk hj=>?_
 have hw:=wrap64 (n:=(k:Int)+1) (by omega) (by omega)
 have hj' : AllTo (fun x=>!strEq x K) L k:=by rw[hJ] at hj; exact hj
 by_cases q1:k<L.length
 ·cases e1:strEq L[k] K
  ·have hJn:J (k+1) ():=by rw[hJ]; exact hj'.step q1 (by show (!strEq L[k] K)=true; rw[e1]; rfl)
   have e1' : Tidy.sEq L[k] K=false:=e1
   simp[q1,e1',hw]
   exact⟨(),hJn⟩
  ·have hBt:B=true:=by rw[← hB,List.any_eq_true]; exact⟨L[k],List.getElem_mem q1,e1⟩
   have e1' : Tidy.sEq L[k] K=true:=e1
   simp[q1,e1',hBt]
 ·have hBf:B=false:=by
     have:=hj'.all q1
     rw[← hB,List.any_eq_false]
     intro x hx
     have:=List.all_eq_true.1 this x hx
     simpa using this
  simp[q1,hBf]
end Go.Proofs.YtjipnamfdmllmaaGreatDoor.Pv
namespace Go.Proofs.YtjipnamfdmllmaaGreatDoor.Pv
open Go Go.RowKit
mutual
def lite:PV→Bool
 | .bool _|.int _ _|.str _|.nilp|.nilf|.nili=>true
 | .vec _ _ []=>true
 | .agg cs=>liteL cs
 | _=>false
def liteL:List PV→Bool
 | []=>true
 | x::xs=>lite x&&liteL xs
end
mutual
theorem lite_rep {w w' : World} {c c' : Ctx}:∀ (x:PV) (v:Value),lite x=true→RepV w c x v→RepV w' c' x v
 | .bool _,_,_,h=>h
 | .int _ _,_,_,h=>h
 | .str _,_,_,h=>h
 | .nilp,_,_,h=>h
 | .nilf,_,_,h=>h
 | .nili,_,_,h=>h
 | .vec _ _ [],v,_,h=>by
   obtain⟨a,cap,h1,h2,h3,h4,h5,_⟩:=h
   exact⟨a,cap,h1,h2,h3,h4,h5,.inl rfl⟩
 | .vec _ _ (_::_),_,hs,_=>by simp[lite] at hs
 | .agg cs,v,hs,h=>by
   obtain⟨vs,e,h1,h2⟩:=h
   exact⟨vs,e,liteL_rep cs _ (by simpa[lite] using hs) h1,h2⟩
 | .undef,_,hs,_|.tup _,_,hs,_|.ref _,_,hs,_|.own _ _ _ _ _,_,hs,_|.ptr _ _ _ _,_,hs,_|.fn _ _ _,_,hs,_|.iface _ _,_,hs,_|.opt _ _,_,hs,_|.raw _,_,hs,_|.mapf _,_,hs,_=>by
   simp[lite] at hs
theorem liteL_rep {w w' : World} {c c' : Ctx}:∀ (xs:List PV) (vs:List Value),liteL xs=true→RepL w c xs vs→RepL w' c' xs vs
 | [],_,_,h=>h
 | x::xs,_,hs,h=>by
   simp only[liteL,Bool.and_eq_true] at hs
   obtain⟨u,us,e,h1,h2⟩:=h
   exact⟨u,us,e,lite_rep x u hs.1 h1,liteL_rep xs us hs.2 h2⟩
end
theorem raw_rep {w:World} {c:Ctx}:∀ (vs us:List Value),RepL w c (vs.map .raw) us↔us=vs
 | [],us=>by simp[RepL]
 | v::vs,us=>by
   simp only[List.map_cons,RepL,RepV,raw_rep vs]
   constructor
   ·rintro⟨u,us',rfl,rfl,rfl⟩; rfl
   ·rintro rfl; exact⟨_,_,rfl,rfl,rfl⟩
theorem RetO.raw {P:Program} {f:FuncId} {args:List PV} {vs:List Value} {esz:Nat} {xs:List (List PV)} {w0:World} {c0:Ctx} (hl:liteL args=true) (hr0:RepL w0 c0 args vs) (hr:RetO P f args esz xs):RetO P f (vs.map .raw) esz xs :=
 ⟨hr.1,fun w F us hG hF hus=>by
  rw[(raw_rep vs us).1 hus]
  exact hr.2 w F vs hG hF (liteL_rep args vs hl hr0)⟩
end Go.Proofs.YtjipnamfdmllmaaGreatDoor.Pv
namespace Go.Proofs.YtjipnamfdmllmaaGreatDoor.Pv
open Go Go.RowKit
def rowS (s:ByteArray):List PV:=[.str s]
theorem rows_of_cells {w:World} {c:Ctx} {b:Nat}:∀ {o:Nat} {l:List ByteArray},(∀ j (hj:j<l.length),w.cell? ⟨b,o+j,none⟩=some (.string l[j])∧l[j].size≤LIM)→RepRows w c 1 b o (l.map rowS)
 | _,[],_=>trivial
 | o,s::l,h=>by
   have h0:=h 0 (by simp)
   refine⟨rfl,⟨⟨.string s,by simpa using h0.1,rfl,rfl,by simpa using h0.2⟩,trivial⟩,rows_of_cells fun j hj=>?_⟩
   have:=h (j+1) (by simpa using hj)
   rw[show o+(j+1)=o+1+j by omega] at this
   simpa using this
end Go.Proofs.YtjipnamfdmllmaaGreatDoor.Pv
namespace Go.Proofs.YtjipnamfdmllmaaGreatDoor.Pv
open Go Go.RowKit
def RetK (P:Program) (f:FuncId) (args:List PV) (h:List (Key × Option HE)) (K:PV→List (Key × Option HE)→Prop):Prop :=
 callable P f=true∧∀ (E:Env) (a:Act) (c:Ctx) (w:World) (vs:List Value) (d:Option Nat) (s:List (Nat × PV)),E.P=P→Good E ⟨s,h⟩ c a w→RepL w c args vs →
  Calls P f vs.toArray w fun e w'=>∃ v,e=.returned v∧∃ r h' c',K r h'∧Good E ⟨putS d r s,h'⟩ c' (a.put d v) w'
theorem RetK.mono {P:Program} {f:FuncId} {args:List PV} {h:List (Key × Option HE)} {K K' : PV→List (Key × Option HE)→Prop} (hr:RetK P f args h K) (hk:∀ r h',K r h'→K' r h'):RetK P f args h K' :=
 ⟨hr.1,fun E a c w vs d s hP hg hrep=>Calls.mono (hr.2 E a c w vs d s hP hg hrep) (by
  rintro e w' ⟨v,he,r,h',c',h1,hg'⟩
  exact⟨v,he,r,h',c',hk r h' h1,hg'⟩)⟩
theorem RetK.of {P:Program} {f nt:Nat} {m:MC} {rs:List RV} {args:List PV} {h:List (Key × Option HE)} {K:PV→List (Key × Option HE)→Prop} (hmix:P.follows .mixedOrders=true) (hm:mfOf P f=some (m.erase,nt,rs)) (hn:args.length≤nt)
 (hx:∀ E:Env,E.P=P→(∀ k e,hk k h=some e→k.2<E.V)→XC E m ⟨(St.init args).s,h⟩ [] (retIn rs fun r' h''=>∃ h',K r' h'∧(∀ k e,hk k h'=some e→∃ e0,hk k h=some e0)∧∀ k,k.2<E.V→leE (fun k=>hk k h'') (hk k h'') (hk k h'))):RetK P f args h K:=by
 obtain⟨fn,c0,hf,hc,hb,rfl,htm,hrs⟩:=mfOf_spec hm
 refine⟨hc,fun E a c w vs d s hP hg hr=>?_⟩
 subst hP
 obtain⟨N,hN⟩:=hg.bnd
 have hV:∀ k e,hk k h=some e→k.2<N:=fun k e he=>hN k (hg.heap k e he).1
 refine calls_of_wp hf hb ?_
 refine wp_mono (exec_sound (E:=⟨E.P,E.w0,E.F0,fn.ntmps,ghostOf E s a,N,E.glob⟩) hmix c0 m _ _ w _ htm ⟨c,inl_begin hg hr hn⟩ (hx _ rfl hV)) ?_
 rintro e a' w' ⟨ex,st',rfl,hq,c',hg'⟩
 have key:∀ q:resOk st' rs∧∃ h',K (resAll st' rs) h'∧(∀ k e,hk k h'=some e→∃ e0,hk k h=some e0)∧∀ k,k.2<N→leE (fun k=>hk k st'.h) (hk k st'.h) (hk k h'),a'.defers=[]∧∃ v,(results fn a'.tmps).run E.P w'=.ok v w'∧∃ v',Ending.returned v=.returned v'∧∃ r h' c'',K r h'∧Good E ⟨putS d r s,h'⟩ c'' (a.put d v') w':=by
  rintro⟨q1,h',q0,hold,q2⟩
  obtain⟨v,k1,k2⟩:=resAll_run hg' hrs q1
  refine⟨hg'.defers.trans (dfs_ghost E s a),v,k1,v,rfl,_,h',c',q0,(inl_end hg hg' k2).leH fun k=>?_⟩
  cases he:hk k h' with
  | none=>cases hk k st'.h<;>trivial
  | some e =>
    obtain⟨e0,he0⟩:=hold k e he
    have:=q2 k (hV k e0 he0)
    rw[he] at this
    exact this
 cases ex with
 | normal=>exact key hq
 | ret=>exact key hq
 | exit id=>exact hq.elim
 | goto l=>exact hq.elim
end Go.Proofs.YtjipnamfdmllmaaGreatDoor.Pv
namespace Go.Proofs.YtjipnamfdmllmaaGreatDoor.Pv
open Go Go.RowKit
section
variable {E:Env} {h:List (Key × Option HE)} {c:Ctx} {w:World}
theorem HRep.drew' {k:Key} {e:HE} (h:HRep w c k e):HRep w.drew c k e:=by
 obtain⟨h1,h2,h3⟩:=h
 refine⟨h1,h2,?_⟩
 cases hb:c.β k with
 | none=>rw[hb] at h3; exact h3
 | some ad =>
   rw[hb] at h3
   obtain⟨b1,b2,b3,b4⟩:=h3
   refine⟨b1,b2,?_,b4⟩
   split
   ·rename_i hx
    rw[if_pos hx] at b3
    exact RepRows.mono (w:=w) (w':=w.drew) _ _ rfl _ _ (mono_drew w) (Ctx.Le.refl _) b3
   ·rename_i hx
    rw[if_neg hx] at b3
    exact RepRows.mono (w:=w) (w':=w.drew) _ _ rfl _ _ (c:=c.d) (mono_drew w) (Ctx.Le.refl _) b3
theorem HGood.drew (hg:HGood E h c w):HGood E h c w.drew :=
 ⟨fun k e he=>(hg.heap k e he).drew',hg.fresh,hg.apart,hg.fz,hg.le,hg.bnd,hg.below.drew⟩
end
end Go.Proofs.YtjipnamfdmllmaaGreatDoor.Pv
namespace Go.Proofs.YtjipnamfdmllmaaGreatDoor.Pv
open Go Go.RowKit
def trunc (w:World) (B:Nat):World:={ w with heap:=w.heap.extract 0 B }
theorem trunc_size {w:World} {B:Nat} (h:B≤w.heap.size):(trunc w B).heap.size=B:=by simp[trunc,Nat.min_eq_left h]
theorem trunc_heap (w:World) (B:Nat) {k:Nat} (hk:k<B):(trunc w B).heap[k]? = w.heap[k]? := by
 simp only[trunc,Array.getElem?_extract]
 split
 ·simp
 ·rename_i h
  rw[Array.getElem?_eq_none (by omega)]
theorem trunc_below (w:World) (B:Nat) (hB:B≤w.heap.size):Bel B (trunc w B) w :=
 Bel.of ⟨rfl,rfl,rfl,by rw[trunc_size hB]; exact hB,fun k hk=>(trunc_heap w B hk).symm⟩
section
variable {E:Env} {st:St} {c:Ctx} {a:Act} {w w' : World} {B:Nat}
theorem Good.gok (hg:Good E st c a w) (hB:E.w0.heap.size≤B) (hBw:B≤w'.heap.size) (hm:Mono c.Fz w w'):GOk E.P (trunc w' B) (fun b=>c.Fz b∧b<B):=by
 have e:∀ g,E.F0 g→g<E.w0.heap.size→(trunc w' B).heap[g]? = E.w0.heap[g]? := fun g h2 h1=>by
  rw[trunc_heap w' B (Nat.lt_of_lt_of_le h1 hB),hm.same g (hg.le g h2),hg.below.block g h1]
 refine⟨fun g cs hgt=>?_,fun t ht g hgt=>?_⟩
 ·obtain⟨h1,h2,h3⟩:=E.glob.1 g cs hgt
  refine⟨by rw[trunc_size hBw]; omega,⟨hg.le g h2,by omega⟩,fun j n hj=>?_⟩
  obtain⟨h4,h5⟩:=h3 j n hj
  exact⟨by rw[← h4]; exact cell_of_heap (e g h2 h1) j,h5⟩
 ·obtain⟨h1,h2,h3⟩:=E.glob.2 t ht g hgt
  exact⟨by rw[trunc_size hBw]; omega,⟨hg.le g h2,by omega⟩,tab_heap hgt (e g h2 h1) h3⟩
theorem Good.rebase (hg:Good E st c a w) (hB:E.w0.heap.size≤B) (hBw:B≤w'.heap.size) (hm:Mono c.Fz w w') (ho:∀ k e ad,hk k st.h=some e→c.β k=some ad→B≤ad.block∧w'.heap[ad.block]? = w.heap[ad.block]?) :
 Good ⟨E.P,trunc w' B,fun b=>c.Fz b∧b<B,E.nt,E.G,E.V,hg.gok hB hBw hm⟩ st c a w' where
 defers:=hg.defers
 size:=hg.size
 slot:=fun t v hv=>RepV.mono _ _ hm (Ctx.Le.refl c) (hg.slot t v hv)
 heap:=fun k e he=>(hg.heap k e he).mono hm (Ctx.Le.refl c) (fun _ _=>Iff.rfl) (fun ad had=>(ho k e ad he had).2)
 fresh:=fun k e ad he had=>⟨by show (trunc w' B).heap.size≤_; rw[trunc_size hBw]; exact (ho k e ad he had).1,Nat.lt_of_lt_of_le (hg.fresh k e ad he had).2 hm.size⟩
 apart:=hg.apart
 fz:=fun b hb=>⟨Nat.lt_of_lt_of_le (hg.fz b hb).1 hm.size,by
  show (c.Fz b∧b<B)∨(trunc w' B).heap.size≤b
  rw[trunc_size hBw]
  rcases Nat.lt_or_ge b B with h|h
  ·exact .inl ⟨hb,h⟩
  ·exact .inr h⟩
 le:=fun b hb=>hb.1
 bnd:=hg.bnd
 below:=by show Bel (trunc w' B).heap.size (trunc w' B) w'; rw[trunc_size hBw]; exact trunc_below w' B hBw
 ghost:=fun p hp=>RepV.mono _ _ hm (Ctx.Le.refl c) (hg.ghost p hp)
end
end Go.Proofs.YtjipnamfdmllmaaGreatDoor.Pv
namespace Go.Proofs.YtjipnamfdmllmaaGreatDoor.Pv
open Go Go.RowKit
section
variable {P:Program} {a:Act} {w:World} {Q:Exit→Act→World→Prop}
theorem wp_scope_ghost {c rest:Code} (l:Nat) (J:Nat→Act→World→Prop) (hf:findLabel c l=some rest)
 (first:c.wp P (Exit.jump l (fun a w=>∃ n,J n a w) Q) a w)
 (pass:∀ n a w,J n a w→rest.wp P (Exit.jump l (fun a' w'=>∃ m,m<n∧J m a' w') Q) a w):(Code.scope c).wp P Q a w:=by
 intro b k cs
 have hg:gotoIn l (.inScope c::k)=some (.code rest::.inScope c::k):=by simp[gotoIn,hf]
 have key:∀ n a w,J n a w→∃ e a' w',Q e a' w'∧Arrives P (lone (b.at a (.code rest::.inScope c::k)) cs w) b k cs e a' w':=by
  intro n
  induction n using Nat.strongRecOn with
  | _ n ih =>
    intro a w hJ
    obtain⟨e,a₁,w₁,hq,harr⟩:=pass n a w hJ b (.inScope c::k) cs
    cases e with
    | normal=>exact⟨.normal,a₁,w₁,hq,Steps.trans harr (.one step_inScope)⟩
    | exit id=>exact⟨.exit id,a₁,w₁,hq,fun k' hk=>harr k' (by simp[exitTo,hk])⟩
    | goto l' =>
      obtain⟨rfl,m,hlt,hJ'⟩:=hq
      obtain⟨e₂,a₂,w₂,hq₂,harr₂⟩:=ih m hlt a₁ w₁ hJ'
      exact⟨e₂,a₂,w₂,hq₂,.of_steps (harr _ hg) harr₂⟩
    | ret=>exact⟨_,a₁,w₁,hq,harr⟩
    | panic ch=>exact⟨_,a₁,w₁,hq,harr⟩
    | outgrown=>exact⟨_,a₁,w₁,hq,harr⟩
 obtain⟨e,a₁,w₁,hq,harr⟩:=first b (.inScope c::k) cs
 cases e with
 | normal=>exact⟨.normal,a₁,w₁,hq,.head step_scope (Steps.trans harr (.one step_inScope))⟩
 | exit id=>exact⟨.exit id,a₁,w₁,hq,fun k' hk=>.head step_scope (harr k' (by simp[exitTo,hk]))⟩
 | goto l' =>
   obtain⟨rfl,n,hJ'⟩:=hq
   obtain⟨e₂,a₂,w₂,hq₂,harr₂⟩:=key n a₁ w₁ hJ'
   exact⟨e₂,a₂,w₂,hq₂,.of_steps (.head step_scope (harr _ hg)) harr₂⟩
 | ret=>exact⟨_,a₁,w₁,hq,.of_steps (.one step_scope) harr⟩
 | panic ch=>exact⟨_,a₁,w₁,hq,.of_steps (.one step_scope) harr⟩
 | outgrown=>exact⟨_,a₁,w₁,hq,.of_steps (.one step_scope) harr⟩
end
theorem toMC_region {P:Program} {nt:Nat} {i:Nat} {ops:Array Oper} {d:Bool} {m:MC} (h:toMC P nt (.region i ops d)=some m):(∃ ms,m=.reg ms)∨∃ un ms,m=.draw un ms:=by
 simp only[toMC] at h
 split at h
 ·split at h
  ·split at h
   ·exact .inr ⟨_,_,(Option.some.inj h).symm⟩
   ·cases h
  ·exact .inl ⟨_,(Option.some.inj h).symm⟩
 ·cases h
theorem toMC_seq {P:Program} {nt:Nat} {c:Code} {m n:MC} (h:toMC P nt c=some (.seq m n)):∃ x y,c=.seq x y∧toMC P nt x=some m∧toMC P nt y=some n:=by
 cases c with
 | seq x y =>
   simp only[toMC] at h
   split at h
   ·rename_i h1 h2
    cases h
    exact⟨x,y,rfl,h1,h2⟩
   ·cases h
 | region i ops d=>rcases toMC_region h with ⟨_,h⟩|⟨_,_,h⟩<;>cases h
 | cond q x y=>simp only[toMC] at h; split at h<;>cases h
 | loop x=>simp[toMC] at h
 | block id x=>simp[toMC] at h
 | scope x=>simp[toMC] at h
 | _=>simp[toMC] at h
theorem toMC_scope {P:Program} {nt:Nat} {c:Code} {m:MC} (h:toMC P nt c=some (.scope m)):∃ x,c=.scope x∧toMC P nt x=some m:=by
 cases c with
 | scope x =>
   simp only[toMC,Option.map_eq_some_iff,MC.scope.injEq,exists_eq_right] at h
   exact⟨x,rfl,h⟩
 | seq x y=>simp only[toMC] at h; split at h<;>cases h
 | region i ops d=>rcases toMC_region h with ⟨_,h⟩|⟨_,_,h⟩<;>cases h
 | cond q x y=>simp only[toMC] at h; split at h<;>cases h
 | loop x=>simp[toMC] at h
 | block id x=>simp[toMC] at h
 | _=>simp[toMC] at h
theorem toMC_label {P:Program} {nt:Nat} {c:Code} {l:Nat} (h:toMC P nt c=some (.label l)):c=.label l:=by
 cases c with
 | label x =>
   simp only[toMC,Option.some.injEq,MC.label.injEq] at h
   rw[h]
 | seq x y=>simp only[toMC] at h; split at h<;>cases h
 | region i ops d=>rcases toMC_region h with ⟨_,h⟩|⟨_,_,h⟩<;>cases h
 | cond q x y=>simp only[toMC] at h; split at h<;>cases h
 | loop x=>simp[toMC] at h
 | block id x=>simp[toMC] at h
 | scope x=>simp[toMC] at h
 | _=>simp[toMC] at h
def noLab:MC→Bool
 | .seq a b=>noLab a&&noLab b
 | .label _=>false
 | _=>true
theorem noLab_find {P:Program} {nt:Nat} (l:Nat):∀ (c:Code) (m:MC),toMC P nt c=some m→noLab m=true→findLabel c l=none
 | .seq x y,m,h,hn=>by
   simp only[toMC] at h
   split at h
   ·rename_i m1 m2 h1 h2
    cases h
    simp only[noLab,Bool.and_eq_true] at hn
    simp only[findLabel,noLab_find l x m1 h1 hn.1,noLab_find l y m2 h2 hn.2]
   ·cases h
 | .label k,m,h,hn=>by
   simp only[toMC,Option.some.injEq] at h
   subst h
   simp[noLab] at hn
 | .skip,_,_,_|.region _ _ _,_,_,_|.cond _ _ _,_,_,_|.block _ _,_,_,_|.loop _,_,_,_|.exit _,_,_,_|.ret,_,_,_|.scope _,_,_,_|.goto _,_,_,_|.rangeFunc _ _ _ _,_,_,_|.refuse _,_,_,_=>rfl
section
variable {E:Env} {A R:MC} {st st' : St} {ks:List KF} {Q:Ex→St→Prop} {ι:Type} {id:Nat}
def AQ (E:Env) (ts:List (Nat × Nat × Nat)) (S:Nat→ι→St) (J:ι→Prop) (ks:List KF) (Q:Ex→St→Prop):Ex→St→Prop
 | .normal,st'=>∃ j,J j∧∀ v,LS (canonF ts v st') (S v j)
 | .goto _,_=>False
 | e,st'=>XE E e st' ks Q
def SQ (E:Env) (l:Nat) (ts:List (Nat × Nat × Nat)) (S:Nat→ι→St) (J:ι→Prop) (μ:ι→Nat) (i:ι) (ks:List KF) (Q:Ex→St→Prop):Ex→St→Prop
 | .goto l',st'=>l'=l∧∃ j,J j∧μ j<μ i∧∀ v,LS (canonF ts v st') (S v j)
 | e,st'=>XE E e st' ks Q
variable {l l' : Nat} {ts:List (Nat × Nat × Nat)} {S:Nat→ι→St} {J:ι→Prop} {μ:ι→Nat} {i:ι}
theorem SQ_normal:SQ E l ts S J μ i ks Q .normal st'=XE E .normal st' ks Q:=propext Iff.rfl
theorem SQ_exit:SQ E l ts S J μ i ks Q (.exit id) st'=XE E (.exit id) st' ks Q:=propext Iff.rfl
theorem SQ_ret:SQ E l ts S J μ i ks Q .ret st'=XE E .ret st' ks Q:=propext Iff.rfl
theorem SQ_goto:SQ E l ts S J μ i ks Q (.goto l') st'=(l'=l∧∃ j,J j∧μ j<μ i∧∀ v,LS (canonF ts v st') (S v j)):=propext Iff.rfl
theorem AQ_normal:AQ E ts S J ks Q .normal st'=∃ j,J j∧∀ v,LS (canonF ts v st') (S v j):=propext Iff.rfl
theorem AQ_exit:AQ E ts S J ks Q (.exit id) st'=XE E (.exit id) st' ks Q:=propext Iff.rfl
theorem AQ_ret:AQ E ts S J ks Q .ret st'=XE E .ret st' ks Q:=propext Iff.rfl
attribute [simp] AQ_normal AQ_exit AQ_ret
attribute [simp] SQ_normal SQ_exit SQ_ret SQ_goto
theorem XLoop.scope (hmix:E.P.follows .mixedOrders=true) (ts:List (Nat × Nat × Nat)) (hts:tagsOk ts=true) (l:Nat) (S:Nat→ι→St) (J:ι→Prop) (μ:ι→Nat) (hA:noLab A.erase=true)
 (h1:XC E A st [] (AQ E ts S J ks Q)) (h2:∀ v j,E.V≤v→J j→XC E R (S v j) [] (SQ E l ts S J μ j ks Q)):XLoop E (.scope (.seq A (.seq (.label l) R))) st ks Q:=by
 intro c hm a w hrel
 obtain⟨x,rfl,hx⟩:=toMC_scope hm
 obtain⟨ca,cb,rfl,ha,hb⟩:=toMC_seq hx
 obtain⟨cl,cr,rfl,hl,hr⟩:=toMC_seq hb
 obtain rfl:=toMC_label hl
 have hfind:findLabel (.seq ca (.seq (.label l) cr)) l=some (.seq .skip cr):=by
  simp[findLabel,noLab_find l ca _ ha hA]
 have hpass:∀ v j a w,E.V≤v→J j→Rel E (S v j) a w→cr.wp E.P (Exit.jump l (fun a' w'=>∃ m,m<μ j∧∃ v' j',E.V≤v'∧J j'∧μ j'=m∧Rel E (S v' j') a' w') (fun e a' w'=>∃ ex st',e=Ex.to ex∧contF E ks Q ex st'∧Rel E st' a' w')) a w:=fun v j a w hv hj hrel=>by
  refine wp_mono (exec_sound hmix cr R (S v j) a w _ hr hrel (h2 v j hv hj)) ?_
  rintro e a' w' ⟨ex,st',rfl,hq,hr'⟩
  cases ex with
  | normal=>exact⟨.normal,st',rfl,hq,hr'⟩
  | exit id=>exact⟨.exit id,st',rfl,hq,hr'⟩
  | ret=>exact⟨.ret,st',rfl,hq,hr'⟩
  | goto l' =>
    obtain⟨e1,j',k1,k2,k3⟩:=hq
    obtain⟨v',hv',hc'⟩:=canonF_rel ts hts hr'
    exact⟨e1,μ j',k2,v',j',hv',k1,rfl,(k3 v').le a' w' hc'⟩
 refine wp_scope_ghost l (fun n a w=>∃ v j,E.V≤v∧J j∧μ j=n∧Rel E (S v j) a w) hfind ?_ ?_
 ·refine wp_seq (wp_mono (exec_sound hmix ca A st a w _ ha hrel h1) ?_)
  rintro e a' w' ⟨ex,st',rfl,hq,hr'⟩
  cases ex with
  | normal =>
    obtain⟨j,k1,k3⟩:=hq
    obtain⟨v,hv,hc'⟩:=canonF_rel ts hts hr'
    refine wp_seq (wp_label (wp_mono (hpass v j a' w' hv k1 ((k3 v).le a' w' hc')) ?_))
    rintro e a2 w2 hq2
    cases e with
    | goto l' =>
      obtain⟨e1,m,_,hJm⟩:=hq2
      exact⟨e1,m,hJm⟩
    | _=>exact hq2
  | exit id=>exact⟨.exit id,st',rfl,hq,hr'⟩
  | ret=>exact⟨.ret,st',rfl,hq,hr'⟩
  | goto l'=>exact hq.elim
 ·rintro n a w ⟨v,j,hv,hj,rfl,hrel⟩
  exact wp_seq (wp_skip (hpass v j a w hv hj hrel))
def LX (E:Env) (n:Nat) (S:Nat→St) (id0:Nat) (Sx:St) (k:Nat) (ks:List KF) (Q:Ex→St→Prop):Ex→St→Prop
 | .normal,st'=>k<n∧∀ v,LS (canonF [] v st') (S (k+1))
 | .exit j,st'=>j=id0∧∀ v,LS (canonF [] v st') Sx
 | e,st'=>XE E e st' ks Q
section
variable {n k id0 j:Nat} {S0:Nat→St} {Sx:St} {body:MC}
theorem LX_normal:LX E n S0 id0 Sx k ks Q .normal st'=(k<n∧∀ v,LS (canonF [] v st') (S0 (k+1))):=propext Iff.rfl
theorem LX_exit:LX E n S0 id0 Sx k ks Q (.exit j) st'=(j=id0∧∀ v,LS (canonF [] v st') Sx):=propext Iff.rfl
theorem LX_ret:LX E n S0 id0 Sx k ks Q .ret st'=XE E .ret st' ks Q:=propext Iff.rfl
attribute [simp] LX_normal LX_exit LX_ret
end
end
end Go.Proofs.YtjipnamfdmllmaaGreatDoor.Pv
namespace Go.Proofs.YtjipnamfdmllmaaGreatDoor.Pv
open Go Go.RowKit Go.Maps
section
variable {E:Env} {st:St} {c:Ctx} {a:Act} {w:World}
theorem toI_mset {P:Program} {nt:Nat} {o:Oper} {t:TypeId} {m k x:MO} (hi:toI P nt o=some (.mset t m k x)):∃ om ok ox,o.op=.mapUpdate t om ok ox∧toO P nt 0 om=some m∧toO P nt 0 ok=some k∧toO P nt 0 ox=some x:=by
 cases ho:o.op with
 | mapUpdate t' om ok ox =>
   simp only[toI,ho] at hi
   split at hi
   ·rename_i h1 h2 h3
    simp only[Option.some.injEq,MI.mset.injEq] at hi
    obtain⟨rfl,rfl,rfl,rfl⟩:=hi
    exact⟨om,ok,ox,rfl,h1,h2,h3⟩
   ·cases hi
 | makeFunc f a b =>
   cases f<;>simp only[toI,ho] at hi
   all_goals (first|(cases hi; done)|skip)
   all_goals (repeat' split at hi)
   all_goals (first|(cases hi; done)|(simp at hi; done))
 | _ =>
   simp only[toI,ho] at hi
   repeat' split at hi
   all_goals (first|(cases hi; done)|(simp at hi; done))
end
structure MapT (P:Program) (tm kt et:TypeId):Prop where
 tm:P.underlying tm=some (.map kt et)
 kt:P.underlying kt=some .string
 et:P.underlying et=some (.int .i64)
def MapIs (P:Program) (kt et:TypeId) (w:World) (b n:Nat) (ks:List ByteArray):Prop :=
 ∃ es:List (Lit × DataW Unit),w.ownsMap P kt (plainElem P et) b n (.map es)∧(∀ p∈es,∃ x,p.1=Lit.string x)∧(∀ x,(∃ p∈es,p.1=Lit.string x)↔∃ s∈ks,s.data.toList=x)∧∀ s∈ks,s.size≤LIM
theorem MapIs.block {P:Program} {kt et:TypeId} {w w' : World} {b n:Nat} {ks:List ByteArray} (h:MapIs P kt et w b n ks) (hb:w'.heap[b]? = w.heap[b]?):MapIs P kt et w' b n ks:=by
 obtain⟨D,⟨es,clock,h1,h2⟩,h3⟩:=h
 exact⟨D,⟨es,clock,hb.trans h1,h2⟩,h3⟩
theorem mem_insert {H:Type} (p q:Lit × DataW H):∀ l:List (Lit × DataW H),q∈DataW.insert p l↔q=p∨q∈l
 | []=>by simp[DataW.insert]
 | y::r=>by
   unfold DataW.insert
   split
   ·simp
   ·simp only[List.mem_cons,mem_insert p q r]
    constructor
    ·rintro (h|h|h)<;>simp[h]
    ·rintro (h|h|h)<;>simp[h]
theorem mem_put {es:List (Lit × DataW Unit)} {s:List UInt8} {d:DataW Unit} {p:Lit × DataW Unit}:p∈ChangeMaps.putKey (.string s) d es→p=(.string s,d)∨p∈es:=fun hp=>by
 unfold ChangeMaps.putKey at hp
 rcases (mem_insert _ _ _).1 hp with h|h
 ·exact .inl h
 ·exact .inr (List.mem_filter.1 h).1
theorem key_put (es:List (Lit × DataW Unit)) (s:List UInt8) (d:DataW Unit) (x:List UInt8):(∃ p∈ChangeMaps.putKey (.string s) d es,p.1=Lit.string x)↔x=s∨∃ p∈es,p.1=Lit.string x:=by
 constructor
 ·rintro⟨p,hp,e⟩
  rcases mem_put hp with rfl|hp
  ·exact .inl (Lit.string.inj e).symm
  ·exact .inr ⟨p,hp,e⟩
 ·rintro (rfl|⟨p,hp,e⟩)
  ·exact⟨_,(mem_insert _ _ _).2 (.inl rfl),rfl⟩
  ·by_cases hk:p.1.sameKey (.string s)=true
   ·have h:=WideAt.sameKey_eq hk
    exact⟨_,(mem_insert _ _ _).2 (.inl rfl),by rw[← e,h]⟩
   ·exact⟨p,(mem_insert _ _ _).2 (.inr (List.mem_filter.2 ⟨hp,by simpa[ChangeMaps.notKey] using hk⟩)),e⟩
structure MEnv (P:Program) (w0:World) (F0:Nat→Prop) (b b2:Nat) (o2:Option Obj) (w1:World) (F1:Nat→Prop):Prop where
 size:w1.heap.size=b+1
 lt:b2<b
 ge:w0.heap.size≤b2
 bel:Bel w0.heap.size w0 w1
 in0:∀ x,F1 x→F0 x∨w0.heap.size≤x
 of0:∀ x,F0 x→F1 x
 lt0:∀ x,F0 x→x<w0.heap.size
 nb:¬ F1 b
 nb2:¬ F1 b2
 blk2:w1.heap[b2]? = o2
def MRel (P:Program) (kt et:TypeId) (w0:World) (F0:Nat→Prop) (nt b b2:Nat) (o2:Option Obj) (n:Nat) (ks:List ByteArray) (st:St) (a:Act) (w:World):Prop :=
 ∃ w1 F1 hG,MEnv P w0 F0 b b2 o2 w1 F1∧MapIs P kt et w1 b n ks∧Rel ⟨P,w1,F1,nt,[],0,hG⟩ st a w
section
variable {P:Program} {tm kt et:TypeId} {w0:World} {F0:Nat→Prop} {nt b b2:Nat} {o2:Option Obj} {n:Nat} {ks:List ByteArray} {st st' : St} {a:Act} {w:World}
theorem MRel.canon (ts:List (Nat × Nat × Nat)) (hts:tagsOk ts=true) (h:MRel P kt et w0 F0 nt b b2 o2 n ks st a w):∃ v,MRel P kt et w0 F0 nt b b2 o2 n ks (canonF ts v st) a w:=by
 obtain⟨w1,F1,hG,h1,h2,h3⟩:=h
 obtain⟨v,_,hr⟩:=canonF_rel ts hts h3
 exact⟨v,w1,F1,hG,h1,h2,hr⟩
theorem MRel.run (hmix:P.follows .mixedOrders=true) {c:Code} {m:MC} {Q:Ex→St→Prop} (hm:toMC P nt c=some m.erase) (h:MRel P kt et w0 F0 nt b b2 o2 n ks st a w) (hx:∀ w1 F1 hG,XC ⟨P,w1,F1,nt,[],0,hG⟩ m st [] Q) :
 c.wp P (fun e a' w'=>∃ ex st',e=Ex.to ex∧Q ex st'∧MRel P kt et w0 F0 nt b b2 o2 n ks st' a' w') a w:=by
 obtain⟨w1,F1,hG,h1,h2,h3⟩:=h
 refine wp_mono (exec_sound (E:=⟨P,w1,F1,nt,[],0,hG⟩) hmix c m st a w _ hm h3 (hx w1 F1 hG)) ?_
 rintro e a' w' ⟨ex,st',rfl,hq,hr'⟩
 exact⟨ex,st',rfl,hq,w1,F1,hG,h1,h2,hr'⟩
theorem MRel.at (h:MRel P kt et w0 F0 nt b b2 o2 n ks st a w):MapIs P kt et w b n ks:=by
 obtain⟨w1,F1,hG,h1,h2,c,hg⟩:=h
 exact h2.block (hg.below.block b (by show b<w1.heap.size; rw[h1.size]; omega))
theorem MRel.bnd (h:MRel P kt et w0 F0 nt b b2 o2 n ks st a w):(∀ t,t<nt→bndV (lk t st.s)):=by
 obtain⟨w1,F1,hG,h1,h2,h3⟩:=h
 exact h3.bnd.1
theorem MRel.set (hT:MapT P tm kt et) {ops:Array Oper} {soft:Bool} {o:Oper} {m k x:MO} {l:List Oper} {Q:Exit→Act→World→Prop} (hm:toOp P nt ops soft o=some ⟨none,.mset tm m k x,none,false⟩) (h:MRel P kt et w0 F0 nt b b2 o2 n ks st a w)
 {s:ByteArray} {i:Int} (gm:st.get m=.raw (.map (some b))) (gk:st.get k=.str s) (gx:st.get x=.int .i64 i) (hn:n<maxLen)
 (hK:∀ w',MRel P kt et w0 F0 nt b b2 o2 (n+1) (s::ks) st a w'→wpList P ops Q l a w'):wpList P ops Q (o::l) a w:=by
 obtain⟨hi,hdst,hgd⟩:=toOp_spec hm
 obtain⟨om,ok,ox,ho,t1,t2,t3⟩:=toI_mset (hi.resolve_right (by simp))
 have hg0:o.guard=none:=by
  rcases hgd with ⟨h1,_⟩|⟨j,want,t,_,_,_,h4⟩
  ·exact h1
  ·cases h4
 have hmap:=h.at
 obtain⟨w1,F1,hG,h1,h2,c,hg⟩:=h
 have r1:a.eval om=.map (some b):=by have:=hg.get (E:=⟨P,w1,F1,nt,[],0,hG⟩) t1; rw[gm] at this; exact this
 have r2:RepV w c (.str s) (a.eval ok):=by have:=hg.get (E:=⟨P,w1,F1,nt,[],0,hG⟩) t2; rw[gk] at this; exact this
 have r3:RepV w c (.int .i64 i) (a.eval ox):=by have:=hg.get (E:=⟨P,w1,F1,nt,[],0,hG⟩) t3; rw[gx] at this; exact this
 obtain⟨r2,r2'⟩:=r2
 obtain⟨r3,r3',r3''⟩:=r3
 obtain⟨D,hown,hstr,hkeys,hlim⟩:=hmap
 have hkey:keyOf P kt (.string s)=some (.string s.data.toList):=WideMaps.keyOf_string_mk hT.kt (by unfold LIM at r2'; unfold maxLen; omega)
 have hval:plainElem (H:=Unit) P et (.int .i64 i)=some (.lit (.int .i64 i),[]):=plainElem_int hT.et (by simp only[Lit.wf,Bool.and_eq_true,decide_eq_true_eq]; exact⟨r3',r3''⟩)
 obtain⟨w',hrun,hown',hgr⟩:=hown.update (string_keyed hT.kt) hT.tm hn hkey hval
 have hput:a.put o.dst undef=a:=by rw[← hdst]; rfl
 have hcell:∀ (cs:Array Value) (el:TypeId) (fr:Nat × Nat),w.heap[b]?≠some (.cells cs el fr):=fun cs el fr hc=>by
  obtain⟨es,clock,hb,_⟩:=hown
  rw[hb] at hc; cases hc
 have hnb:¬ c.Fz b:=fun hf=>by
  rcases (hg.fz b hf).2 with h|h
  ·exact h1.nb h
  ·have:w1.heap.size≤b:=h
   have:=h1.size
   omega
 have hnb2:¬ c.Fz b2:=fun hf=>by
  rcases (hg.fz b2 hf).2 with h|h
  ·exact h1.nb2 h
  ·have:w1.heap.size≤b2:=h
   have:=h1.lt
   have:=h1.size
   omega
 have hbw:b<w.heap.size:=by
  obtain⟨es,clock,hb,_⟩:=hown
  exact (Array.getElem?_eq_some_iff.1 hb).1
 have hsame:∀ j,j≠b→j<w.heap.size→w'.heap[j]? = w.heap[j]? := fun j hj hlt=>hgr.block j hlt (fun e=>hj (Option.some.inj e))
 have hmono:Mono c.Fz w w':=⟨hgr.size,fun j hj=>hsame j (fun e=>hnb (e ▸ hj)) (hg.fz j hj).1,fun j cs el fr hj=>by
  by_cases e:j=b
  ·subst e; exact absurd hj (hcell cs el fr)
  ·exact⟨cs,fr,(hsame j e (Array.getElem?_eq_some_iff.1 hj).1).trans hj,rfl⟩⟩
 have hown1:∀ k e ad,hk k st.h=some e→c.β k=some ad→b+1≤ad.block∧w'.heap[ad.block]? = w.heap[ad.block]? := fun k e ad he had=>by
  obtain⟨f1,f2⟩:=hg.fresh k e ad he had
  have f1' : w1.heap.size≤ad.block:=f1
  rw[h1.size] at f1'
  exact⟨f1',hsame _ (by omega) f2⟩
 have hBw:b+1≤w'.heap.size:=by have:=hgr.size; omega
 have hgn:=hg.rebase (w':=w') (B:=b+1) (by show w1.heap.size≤_; rw[h1.size]; exact Nat.le_refl _) hBw hmono hown1
 have hstep:∀ j,j<b→w'.heap[j]? = w1.heap[j]? := fun j hj=>by
  rw[hsame j (by omega) (by omega)]
  exact hg.below.block j (by show j<w1.heap.size; rw[h1.size]; omega)
 refine wpList_plain hg0 fun K hKK=>?_
 unfold Oper.wp
 simp[execOp,ho,r1,r2,r3,hrun,Result.andThen]
 show K (a.put o.dst undef) w'
 rw[hput]
 refine hKK _ _ (hK w' ⟨trunc w' (b+1),fun x=>c.Fz x∧x<b+1,_,?_,?_,c,hgn⟩)
 ·refine⟨trunc_size hBw,h1.lt,h1.ge,?_,fun x hx=>?_,fun x hx=>?_,h1.lt0,fun hx=>hnb hx.1,fun hx=>hnb2 hx.1,?_⟩
  ·have e1:=hg.below.below
   have e1' : Below w1.heap.size w1 w:=e1
   have hge:=h1.ge
   have hlt:=h1.lt
   refine Bel.of ⟨?_,?_,?_,?_,fun j hj=>?_⟩
   ·show w'.os=_
    rw[hgr.os,e1'.os,h1.bel.below.os]
   ·show w'.tape=_
    rw[hgr.tape,e1'.tape,h1.bel.below.tape]
   ·show w'.output=_
    rw[hgr.output,e1'.output,h1.bel.below.output]
   ·rw[trunc_size hBw]; omega
   ·rw[trunc_heap _ _ (by omega),hstep j (by omega),h1.bel.block j hj]
  ·rcases (hg.fz x hx.1).2 with h|h
   ·exact h1.in0 x h
   ·have:w1.heap.size≤x:=h
    have:=hx.2
    have:=h1.size
    have:=h1.ge
    have:=h1.lt
    omega
  ·exact⟨hg.le x (h1.of0 x hx),by have:=h1.lt0 x hx; have:=h1.ge; have:=h1.lt; omega⟩
  ·rw[trunc_heap _ _ (by have:=h1.lt; omega),hstep b2 h1.lt,h1.blk2]
 ·refine⟨ChangeMaps.putKey (.string s.data.toList) (.lit (.int .i64 i)) D,?_,fun p hp=>?_,fun x=>?_,fun x hx=>?_⟩
  ·obtain⟨es,clock,hb,hrest⟩:=hown'
   exact⟨es,clock,by rw[trunc_heap _ _ (by omega)]; exact hb,hrest⟩
  ·rcases mem_put hp with rfl|hp
   ·exact⟨_,rfl⟩
   ·exact hstr p hp
  ·rw[key_put,hkeys]
   simp only[List.mem_cons]
   constructor
   ·rintro (rfl|⟨s',hs',rfl⟩)
    ·exact⟨s,.inl rfl,rfl⟩
    ·exact⟨s',.inr hs',rfl⟩
   ·rintro⟨s',rfl|hs',rfl⟩
    ·exact .inl rfl
    ·exact .inr ⟨s',hs',rfl⟩
  ·rcases List.mem_cons.1 hx with rfl|hx
   ·exact r2'
   ·exact hlim x hx
end
end Go.Proofs.YtjipnamfdmllmaaGreatDoor.Pv
namespace Go.Proofs.YtjipnamfdmllmaaGreatDoor.Pv
open Go Go.RowKit Go.Maps
section
variable {P:Program} {tm kt et:TypeId} {w0:World} {F0:Nat→Prop} {hG0:GOk P w0 F0} {nt:Nat} {a:Act} {w:World}
theorem putSlot {a:Act} {d t:Nat} {v:Value} (h:t≠d):(a.put (some d) v).tmps[t]? = a.tmps[t]? := by
 simp only[Act.put,Array.getElem?_setIfInBounds]
 rw[if_neg (fun e=>h e.symm)]
theorem sorted_strict {ss:List (List UInt8)} (h:ss.Nodup):(ss.mergeSort fun x y=>decide (x≤y)).Pairwise (· < ·):=by
 have h1:=List.pairwise_mergeSort (le:=fun x y:List UInt8=>decide (x≤y)) (fun a b c h k=>by simp only[decide_eq_true_eq] at *; exact List.le_trans h k) (fun a b=>by simp only[Bool.or_eq_true,decide_eq_true_eq]; exact List.le_total a b) ss
 have h2:(ss.mergeSort fun x y=>decide (x≤y)).Nodup:=(List.mergeSort_perm ss _).nodup_iff.2 h
 refine (List.pairwise_and_iff.2 ⟨h1,h2⟩ : List.Pairwise _ _).imp ?_
 rintro a b ⟨h1,h2⟩
 rcases Classical.em (a<b) with k|k
 ·exact k
 ·exact absurd (List.le_antisymm (by simpa using h1) (List.not_lt.1 k)) h2
end
end Go.Proofs.YtjipnamfdmllmaaGreatDoor.Pv
set_option maxRecDepth 100000
namespace Go.Proofs.YtjipnamfdmllmaaGreatDoor.Pv
open Go Go.RowKit Go.Maps
theorem wpList_callc {P:Program} {ops:Array Oper} {Q:Exit→Act→World→Prop} {rest:List Oper} {o:Oper} {a:Act} {w:World} {cl:Call} {f:FuncId} {vs:Array Value} {R:Ending→World→Prop} (hg:o.guard=none) (hop:o.op=.call cl) (hcl:cl.callee=.value (.func f)) (hc:callable P f=true) (hv:cl.args.map a.eval=vs)
 (hcall:Calls P f vs w R) (hK:∀ e w',R e w'→∃ v,e=.returned v∧wpList P ops Q rest (a.put o.dst v) w'):wpList P ops Q (o::rest) a w:=by
 have hrun:(execOp a.eval o).run P w=.ok (.enter f vs) w:=by
  rw[run_call hop hcl (a:=#[]) (b:=#[]) rfl hc]
  congr 2
  simp[hv]
 refine wpList_plain hg fun K hK'=>Runs.wp (.inr ⟨f,vs,hrun,Calls.mono hcall ?_⟩)
 intro e w' hr
 obtain⟨v,rfl,h⟩:=hK e w' hr
 exact⟨v,rfl,hK' _ _ h⟩
theorem sorts_in4 (m:Nat):AnyZ.SortsIn Tryz.prog Tryz.sortedA_ren Fence.wide m :=
 ⟨fun blk off cap ss W hH hblk hsz=>callsIn_wide.2 (AnyM.slices_Sort_string Tryz.sortA blk off cap ss W hH hblk hsz),
  fun p cap W=>callsIn_wide.2 (AnyM.slices_Sort_string_none Tryz.sortA p cap W)⟩
theorem keys_sorted (w:World) (b n:Nat) (es:List (Lit × DataW Unit)) (hown:w.ownsMap Tryz.prog 9 RF b n (.map es)) (hlen:es.length≤34359738368) :
 Calls Tryz.prog M.F_maps_Keys_prim_does #[.map (some b)] w fun e w'=>∃ v,e=.returned v∧Below w.heap.size w w' ∧
  Calls Tryz.prog M.F_slices_Sorted_string #[v] w' fun e2 w2=>∃ (u:Value) (ss:List (List UInt8)),e2=.returned u∧ss.Perm (strKeys (.map es))∧w2.ownsRow w'.heap.size 9 1 u ss.length ((ss.mergeSort fun x y=>decide (x≤y)).map fun x=>Value.string ⟨x.toArray⟩)∧Below w'.heap.size w' w2:=by
 have hsz:Maps.size (.map es:DataW Unit)≤34359738368:=hlen
 have hbl:=hown.lt
 have cK:CallsIn Fence.wide 5 Tryz.prog M.F_maps_Keys_prim_does #[.map (some b)] w fun e w'=>e=.returned (.func (.func M.F_maps_Keys_prim_does_1) #[] #[.pointer (some ⟨w.heap.size,0,none⟩)])∧w'=w.alloc (.cells #[.map (some b)] 37):=AnyZ.keys_in Tryz.keysA Fence.wide 5 trivial rfl (some b) w
 refine Calls.mono ((callsIn_wide (n:=5)).1 cK) ?_
 rintro e w' ⟨rfl,rfl⟩
 refine⟨_,rfl,(Below.refl _ w).alloc (Nat.le_refl _) _,?_⟩
 have hseq:SeqGives Fence.wide 2 Tryz.prog M.F_maps_Keys_prim_does_1 #[.pointer (some ⟨w.heap.size,0,none⟩)] Go.Proofs.encStr (fun ss=>ss.Perm (strKeys (.map es:DataW Unit))) (Maps.size (.map es:DataW Unit)) (w.alloc (.cells #[.map (some b)] 37)) :=
  AnyZ.keys_gives (ρ:=Tryz.keysA_ren) { Tryz.keysA with } Fence.wide _ trivial rfl (by omega) w.heap.size b n (.map es) _ (by simp) (by simp) (by
   obtain⟨es',clock,hb,Ft,hs,hD⟩:=hown
   exact⟨es',clock,(Below.heap_alloc _ _ b hbl).trans hb,Ft,hs,hD⟩)
 have cS:=AnyZ.sorted_in Tryz.sortedA Fence.wide 5 trivial trivial trivial trivial rfl (by omega) (sorts_in4 _) (enters_of Tryz.func25 (by kernel_rfl) rfl) M.F_maps_Keys_prim_does_1 #[.pointer (some ⟨w.heap.size,0,none⟩)] trivial (enters_of Tryz.func26 (by kernel_rfl) rfl) _ _ (by unfold maxLen; omega) (by omega) _ hseq
 change CallsIn _ _ Tryz.prog M.F_slices_Sorted_string _ _ _ at cS
 refine Calls.mono ((callsIn_wide (n:=5)).1 cS) ?_
 rintro e w' ⟨v,ss,rfl,hS,hrow,hnil,hb⟩
 exact⟨v,ss,rfl,hS,hrow,hb⟩
theorem names_body:∃ (o0 o1 o2 o3 o4:Oper) (c1 c2 c3:Call) (i0 i1:Nat) (r0 r1:Array Oper),Tryz.f6.body=some (.seq (.region i0 r0 false) (.seq (.region i1 r1 false) .ret))∧r0.toList=[o0]∧r1.toList=[o1,o2,o3,o4] ∧
 (o0.guard=none∧o0.op=.assign (.const (.slice none 0 0)))∧(o1.guard=none∧o1.dst=some 1∧o1.op=.call c1∧c1.callee=.value (.func M.F_prim_table)∧c1.args=#[]) ∧
 (o2.guard=none∧o2.dst=some 2∧o2.op=.call c2∧c2.callee=.value (.func M.F_maps_Keys_prim_does)∧c2.args=#[.tmp 1]) ∧
 (o3.guard=none∧o3.dst=some 3∧o3.op=.call c3∧c3.callee=.value (.func M.F_slices_Sorted_string)∧c3.args=#[.tmp 2])∧(o4.guard=none∧o4.dst=some 0∧o4.op=.assign (.tmp 3)) :=
 ⟨_,_,_,_,_,_,_,_,_,_,_,_,rfl,rfl,rfl,⟨rfl,rfl⟩,⟨rfl,rfl,rfl,rfl,rfl⟩,⟨rfl,rfl,rfl,rfl,rfl⟩,⟨rfl,rfl,rfl,rfl,rfl⟩,⟨rfl,rfl,rfl⟩⟩
def namesOf (D:DataW Unit):List (Lit × DataW Unit):=match D with
 | .map E=>E
 | _=>[]
theorem names_map:putM (.map []) primT=.map (namesOf (putM (.map []) primT)):=by kernel_rfl
theorem names_rising:(namesOf (putM (.map []) primT)).map (fun p=>strOf p.1)=refN.map (fun s=>s.data.toList):=by kernel_rfl
theorem refN_pw:(refN.map fun s=>s.data.toList).Pairwise (· < ·):=by decide +kernel
theorem sorted_refN {ss:List (List UInt8)} (h:ss.Perm (refN.map fun s=>s.data.toList)):(ss.mergeSort fun x y=>decide (x≤y))=refN.map fun s=>s.data.toList:=by
 have hn:(refN.map fun s=>s.data.toList).Nodup:=refN_pw.imp fun {a b} h e=>by subst e; exact absurd h (List.lt_irrefl _)
 have hp:(ss.mergeSort fun x y=>decide (x≤y)).Perm (refN.map fun s=>s.data.toList):=(List.mergeSort_perm ss _).trans h
 have hs:=sorted_strict (h.nodup_iff.2 hn)
 exact hp.eq_of_pairwise (fun a b _ _ h1 h2=>absurd (List.lt_trans h1 h2) (List.lt_irrefl _)) hs refN_pw
theorem rowS_enc (l:List ByteArray):l.map rowS=l.map encStr:=rfl
theorem names_rep {w:World} {B:Nat} {u:Value} {n:Nat} (F:Nat→Prop) (hn:n=refN.length) (h:w.ownsRow B 9 1 u n ((refN.map fun s=>s.data.toList).map fun x=>Value.string ⟨x.toArray⟩)) (hF:∀ x,B≤x→x<w.heap.size→F x):RepV w (dctx F) (.vec 1 false (refN.map encStr)) u:=by
 obtain⟨r1,r2⟩:=h
 have hl:refN.length=40:=by decide
 rcases r2 with ⟨_,e⟩|⟨g,cap,cur,rfl,r2,r3,r4,r5,r6,r7⟩
 ·rw[hn,hl] at e; cases e
 ·rw[← rowS_enc]
  refine⟨some ⟨g,0,none⟩,cap,by simp[hn],by simp[← hn]; exact r4,by unfold maxLen at r5; omega,by simp only[List.length_map,hl,LIM]; omega,by simp,.inr ⟨⟨g,0,none⟩,rfl,rfl,?_,?_⟩⟩
  ·have hgl:g<w.heap.size:=(Array.getElem?_eq_some_iff.1 r3).1
   exact hF g (by omega) hgl
  ·refine rows_of_cells fun j hj=>⟨?_,?_⟩
   ·have e1:(cur.toList.take (n*1))[j]? = some (Value.string refN[j]):=by
       rw[r7,List.getElem?_map,List.getElem?_map,List.getElem?_eq_getElem hj]
       simp
    rw[List.getElem?_take_of_lt (by omega),Array.getElem?_toList] at e1
    simp only[World.cell?,r3,Nat.zero_add]
    simpa using e1
   ·have hall:(refN.all fun s=>decide (s.size≤LIM))=true:=by kernel_rfl
    have:=List.all_eq_true.1 hall _ (List.getElem_mem hj)
    simpa using this
theorem c_prim_Names:Ret prog M.F_prim_Names [] (.vec 1 false (refN.map encStr)):=by
 refine⟨by kernel_rfl,fun w F vs hG hF hr=>?_⟩
 have hvs:vs=[]:=hr
 subst hvs
 obtain⟨o0,o1,o2,o3,o4,c1,c2,c3,i0,i1,r0,r1,hb,e0,e1,⟨g0,p0⟩,⟨g1,d1,p1,k1,a1⟩,⟨g2,d2,p2,k2,a2⟩,⟨g3,d3,p3,k3,a3⟩,⟨g4,d4,p4⟩⟩:=names_body
 refine calls_of_wp Tryz.func6 hb (wp_seq (wp_region_list ?_))
 rw[e0]
 refine wpList_plain g0 fun K hK=>?_
 unfold Oper.wp
 simp[execOp,p0,Act.eval,Result.andThen]
 refine hK _ _ (wpList_nil ?_)
 refine wp_seq (wp_region_list ?_)
 rw[e1]
 obtain⟨A,hA⟩ : ∃ A:Act,A=Act.put { tmps:=Array.replicate 4 undef,defers:=[] } o0.dst (Value.slice none 0 0):=⟨_,rfl⟩
 have hsz:A.tmps.size=4:=by rw[hA]; cases o0.dst<;>simp[Act.put]<;>rfl
 have hdf:A.defers=[]:=by rw[hA]; cases o0.dst<;>rfl
 rw[← hA]
 refine wpList_callc g1 p1 k1 (by kernel_rfl) (vs:=#[]) (by rw[a1]; simp) (table_calls (ps:=primT) Tryz.func14 rfl rfl Tryz.underlying37 Tryz.underlying9 (by kernel_rfl) (by decide) (fun p hp=>by
  have:=prim_ents
  unfold entsD at this
  rw[names_map] at this
  simp only[entsOk,Bool.and_eq_true,List.all_eq_true,decide_eq_true_eq] at this
  exact this.2 p hp) w) ?_
 rintro e w1 ⟨rfl,hown,hbel⟩
 refine⟨_,rfl,?_⟩
 rw[names_map] at hown
 rw[d1]
 have hv1:(A.put (some 1) (.map (some w.heap.size))).eval (.tmp 1)=.map (some w.heap.size):=by simp[Act.put,Act.eval,hsz]
 refine wpList_callc g2 p2 k2 (by kernel_rfl) (vs:=#[.map (some w.heap.size)]) (by rw[a2]; simp[hv1]) (keys_sorted w1 _ _ _ hown (by
  have:=congrArg List.length names_rising
  simp only[List.length_map] at this
  rw[this]; decide)) ?_
 rintro e w2 ⟨v,rfl,hb2,hcall⟩
 refine⟨_,rfl,?_⟩
 rw[d2]
 have hv2:((A.put (some 1) (.map (some w.heap.size))).put (some 2) v).eval (.tmp 2)=v:=by simp[Act.put,Act.eval,hsz]
 refine wpList_callc g3 p3 k3 (by kernel_rfl) (vs:=#[v]) (by rw[a3]; simp[hv2]) hcall ?_
 rintro e w3 ⟨u,ss,rfl,hperm,hrow,hb3⟩
 refine⟨_,rfl,?_⟩
 rw[d3]
 have hv3:(((A.put (some 1) (.map (some w.heap.size))).put (some 2) v).put (some 3) u).eval (.tmp 3)=u:=by simp[Act.put,Act.eval,hsz]
 refine wpList_plain g4 fun K hK=>?_
 unfold Oper.wp
 simp[execOp,p4,hv3,Result.andThen]
 show K ((((A.put (some 1) (.map (some w.heap.size))).put (some 2) v).put (some 3) u).put o4.dst u) w3
 rw[d4]
 refine hK _ _ (wpList_nil ?_)
 refine wp_ret (bodyPost_ret (results_tmp rfl _ _ _) hdf ?_)
 have hres:((((A.put (some 1) (.map (some w.heap.size))).put (some 2) v).put (some 3) u).put (some 0) u).tmps.getD 0 undef=u:=by simp[Act.put,hsz]
 rw[hres]
 have hpp:ss.Perm (refN.map fun s=>s.data.toList):=by rw[← names_rising]; exact hperm
 rw[sorted_refN hpp] at hrow
 have hlen:ss.length=refN.length:=by have:=hpp.length_eq; simpa using this
 have s1:=hbel.size
 have s2:=hb2.size
 have s3:=hb3.size
 have hB:Below w.heap.size w w3:=hbel.trans ((hb2.mono s1).trans (hb3.mono (Nat.le_trans s1 s2)))
 refine⟨u,fun b=>F b∨(w.heap.size≤b∧b<w3.heap.size),rfl,Bel.of hB,fun _ h=>.inl h,fun b hb=>?_,names_rep _ hlen hrow fun x h1 h2=>.inr ⟨by omega,h2⟩⟩
 rcases hb with hb|hb
 ·have:=hF b hb
  exact⟨by omega,.inl hb⟩
 ·exact⟨hb.2,.inr hb.1⟩
end Go.Proofs.YtjipnamfdmllmaaGreatDoor.Pv
namespace Go.Proofs.YtjipnamfdmllmaaGreatDoor.Pv
open Go Go.RowKit
def okOptB (cb want:Bool):PV→Bool
 | .opt b' _=>cb != want||b'
 | _=>true
theorem okOptB_ok {cb want:Bool} {x:PV} (h:okOptB cb want x=true):okOpt cb want x:=by
 cases x<;>first|trivial|skip
 rename_i b y
 intro e
 subst e
 simpa[okOptB] using h
def optOkB (gb:Bool):PV→Bool
 | .opt b' _=>!gb||b'
 | _=>true
def optsOkB (gb:Bool) (get:MO→PV):List MO→Bool
 | []=>true
 | x::xs=>optOkB gb (get x)&&optsOkB gb get xs
theorem optsOkB_ok {gb:Bool} {get:MO→PV}:∀ xs,optsOkB gb get xs=true→optsOk gb get xs
 | [],_=>trivial
 | x::xs,h=>by
   simp only[optsOkB,Bool.and_eq_true] at h
   refine⟨?_,optsOkB_ok xs h.2⟩
   have h1:=h.1
   generalize get x=y at *
   cases y<;>first|trivial|skip
   rename_i b z
   intro e
   subst e
   simpa[optOkB] using h1
def isRunB:PV→Bool
 | .opt b _=>b
 | _=>true
theorem isRunB_ok {x:PV} (h:isRunB x=true):isRun x:=by
 cases x<;>first|trivial|exact h
def rowsB (hl:Key→Option HE):PV→Bool
 | .own g _ off len _=>match hl g with
   | some e=>!e.bx&&decide (off+len≤e.xs.length)
   | none=>false
 | _=>true
theorem rowsB_ok {hl:Key→Option HE} {x:PV} {po:Prop} {xe:Nat} {rd:List Nat} {cx:List (List PV)} (h:rowsOf hl x=some (po,xe,rd,cx)) (hb:rowsB hl x=true):po:=by
 unfold rowsOf at h
 split at h
 ·cases h; trivial
 ·split at h
  ·rename_i e he
   cases h
   simp only[rowsB,he,Bool.and_eq_true,Bool.not_eq_true',decide_eq_true_eq] at hb
   exact hb
  ·cases h
 ·cases h; trivial
 ·cases h
def preB (get:MO→PV) (hl:Key→Option HE):MI→Bool
 | .pick c a b=>isRunB (get c)&&match strip (get c) with
   | .bool cb=>okOptB cb true (get a)&&okOptB cb false (get b)
   | _=>false
 | .box x=>storable (get x)
 | .build z ps=>fillOkB z.length (ps.map fun p=>(p.1,p.2.1,get p.2.2))
 | .bslice esz z n ps=>fillROkB esz n (ps.map fun p=>(p.1,reify hl (get p.2)))&&okLB hl (ps.map fun p=>get p.2)&&decide (z.length=esz)&&decide (0<esz)&&decide (n≤1024)
 | .load a n ag=>match get a with
   | .ref cs=>decide (n≤cs.length)&&(ag||decide (n=1))
   | .ptr g _ i off=>match hl g with
     | some e=>decide (i<e.xs.length)&&decide (off+n≤(e.xs.getD i []).length)&&(ag||decide (n=1))
     | none=>false
   | _=>false
 | .store a x n=>match get a with
   | .ptr g _ i off=>match hl g with
     | some e=>if e.bx then decide (i<e.xs.length)&&decide (off+n≤(e.xs.getD i []).length)&&decide ((cells (get x)).length=n)&&storable (get x)
       else decide (i<e.xs.length)&&decide (off+n≤(e.xs.getD i []).length)&&decide ((cells (reify hl (get x))).length=n)&&storable (reify hl (get x))&&okVB hl (get x)&&!(keysOf hl (get x)).contains g
     | none=>false
   | _=>false
 | .bin op _ x y=>binB op (get x) (get y)
 | .field x off n ag=>match get x with
   | .agg cs=>decide (off+n≤cs.length)&&(ag||decide (n=1))
   | _=>false
 | .iaddr x i _=>match get x,get i with
   | .vec _ _ xs,.int _ n=>decide (0≤n)&&decide (n<xs.length)
   | .own _ _ _ len _,.int _ n=>decide (0≤n)&&decide (n<len)
   | _,_=>false
 | .iaddrp _ i len _=>match get i with
   | .int _ n=>decide (0≤n)&&decide (n<len)
   | _=>false
 | .sidx x i=>match get x,get i with
   | .str s,.int _ n=>decide (0≤n)&&decide (n<s.size)
   | _,_=>false
 | .aidx x i len esz ag=>match get x,get i with
   | .agg cs,.int _ n=>decide (0≤n)&&decide (n<len)&&decide (cs.length=len*esz)&&(ag||decide (esz=1))
   | _,_=>false
 | .slc x esz lo hi mx=>match get x with
   | .vec esz' _ xs=>match bounds xs.length (lo.map get) (hi.map get),mxOf get mx with
     | some (l,h),some none=>(xs.isEmpty||decide (esz'=esz))&&decide (0≤l)&&decide (l≤h)&&decide (h≤xs.length)
     | some (l,h),some (some m)=>(xs.isEmpty||decide (esz'=esz))&&decide (0≤l)&&decide (l≤h)&&decide (h≤m)&&decide (m≤xs.length)
     | _,_=>false
   | .own _ _ _ len _=>match bounds len (lo.map get) (hi.map get),mxOf get mx with
     | some (l,h),some none=>decide (0≤l)&&decide (l≤h)&&decide (h≤len)
     | some (l,h),some (some m)=>decide (0≤l)&&decide (l≤h)&&decide (h≤m)&&decide (m≤len)
     | _,_=>false
   | _=>false
 | .sslc x lo hi=>match get x with
   | .str s=>match bounds s.size (lo.map get) (hi.map get) with
     | some (l,h)=>decide (0≤l)&&decide (l≤h)&&decide (h≤s.size)
     | none=>false
   | _=>false
 | .ext x i=>match get x with
   | .tup vs=>decide (i<vs.length)
   | _=>false
 | .app s x esz=>rowsB hl (get x)&&(match rowsOf hl (get x) with
   | some (_,xe,_,cx)=>match get s with
     | .vec esz' full xs=>if nilV full xs&&esz' == esz then (cx.isEmpty||decide (xe=esz))&&decide (0<esz)&&decide (cx.length≤68719476736)
       else cx.isEmpty||decide (0<cx.length)&&decide (xe=esz)&&(xs.isEmpty||decide (esz'=esz))&&decide (0<esz)&&decide (xs.length+cx.length≤68719476736)
     | .own g _ off len _=>match hl g with
       | some e=>(cx.isEmpty||decide (xe=esz))&&decide (off+len≤e.xs.length)&&decide (len+cx.length≤68719476736)
       | none=>false
     | _=>false
   | none=>false)
 | .appz s n esz z=>match get n with
   | .int _ k=>decide (z.length=esz)&&decide (0<esz)&&decide (1≤k)&&decide (k≤34359738368)
   | _=>false
 | .b2s x=>rowsB hl (get x)&&(match rowsOf hl (get x) with
   | some (_,_,_,cx)=>decide (cx.length≤LIM)
   | none=>false)
 | .mksl esz z l c=>match get l,get c with
   | .int _ n,.int _ m=>decide (z.length=esz)&&decide (0<esz)&&decide (0≤n)&&decide (n≤m)&&decide (m≤34359738368)
   | _,_=>false
 | .clr x esz=>match get x with
   | .own g _ off len _=>match hl g with
     | some e=>decide (off+len≤e.xs.length)
     | none=>false
   | _=>true
 | _=>true
theorem preB_ok {key:Key} {get:MO→PV} {hl:Key→Option HE} {i:MI} {out:Out} (hs:opSem key get hl i=some out) (hb:preB get hl i=true):out.pre:=by
 cases i with
 | pick c a b =>
   simp only[opSem] at hs
   simp only[preB] at hb
   split at hs
   ·rename_i cb hc
    cases hs
    simp only[hc,Bool.and_eq_true] at hb
    exact⟨isRunB_ok hb.1,okOptB_ok hb.2.1,okOptB_ok hb.2.2⟩
   ·cases hs
 | box x=>simp only[opSem,Option.some.injEq] at hs; subst hs; exact hb
 | build z ps=>simp only[opSem,Option.some.injEq] at hs; subst hs; exact fillOkB_ok _ hb
 | bslice esz z n ps =>
   simp only[opSem,Option.some.injEq] at hs; subst hs
   simp only[preB,Bool.and_eq_true,decide_eq_true_eq] at hb
   obtain⟨⟨⟨⟨h1,h2⟩,h3⟩,h4⟩,h5⟩:=hb
   exact⟨fillROkB_ok _ h1,okLB_ok _ h2,h3,h4,h5⟩
 | load a n ag =>
   simp only[opSem] at hs
   simp only[preB] at hb
   split at hs
   ·rename_i cs hx
    cases hs
    simp only[hx,Bool.and_eq_true,decide_eq_true_eq,Bool.or_eq_true] at hb
    exact⟨hb.1,fun h=>hb.2.resolve_left (by simp[h])⟩
   ·rename_i g esz i off hx
    split at hs
    ·rename_i e he
     cases hs
     simp only[hx,he,Bool.and_eq_true,decide_eq_true_eq,Bool.or_eq_true] at hb
     exact⟨hb.1.1,hb.1.2,fun h=>hb.2.resolve_left (by simp[h])⟩
    ·cases hs
   ·cases hs
 | store a x n =>
   simp only[opSem] at hs
   simp only[preB] at hb
   split at hs
   ·rename_i g esz i off hx
    split at hs
    ·rename_i e he
     split at hs
     ·cases hs
     ·split at hs
      ·rename_i hbx
       cases hs
       simp only[hx,he,hbx,if_true,Bool.and_eq_true,decide_eq_true_eq] at hb
       exact⟨hb.1.1.1,hb.1.1.2,hb.1.2,hb.2⟩
      ·rename_i hbx
       cases hs
       simp only[hx,he,hbx,if_false,Bool.and_eq_true,decide_eq_true_eq,Bool.not_eq_true',Bool.false_eq_true] at hb
       exact⟨hb.1.1.1.1.1,hb.1.1.1.1.2,hb.1.1.1.2,hb.1.1.2,okVB_ok _ hb.1.2,hb.2⟩
    ·cases hs
   ·cases hs
 | bin op cls x y =>
   simp only[opSem] at hs
   split at hs
   ·rename_i p r hbs
    cases hs
    exact binB_ok hbs hb
   ·cases hs
 | field x off n ag =>
   simp only[opSem] at hs
   simp only[preB] at hb
   split at hs
   ·rename_i cs hx
    cases hs
    simp only[hx,Bool.and_eq_true,decide_eq_true_eq,Bool.or_eq_true] at hb
    exact⟨hb.1,fun h=>hb.2.resolve_left (by simp[h])⟩
   ·cases hs
 | iaddr x i esz =>
   simp only[opSem] at hs
   simp only[preB] at hb
   split at hs
   ·rename_i e f xs k n hx hy
    split at hs
    ·cases hs
     simp only[hx,hy,Bool.and_eq_true,decide_eq_true_eq] at hb
     exact hb
    ·cases hs
   ·rename_i g e off len full k n hx hy
    split at hs
    ·cases hs
     simp only[hx,hy,Bool.and_eq_true,decide_eq_true_eq] at hb
     exact hb
    ·cases hs
   ·cases hs
 | iaddrp x i len esz =>
   simp only[opSem] at hs
   simp only[preB] at hb
   split at hs
   ·rename_i cs k n hx hy
    cases hs
    simp only[hy,Bool.and_eq_true,decide_eq_true_eq] at hb
    exact hb
   ·rename_i g e j off k n hx hy
    cases hs
    simp only[hy,Bool.and_eq_true,decide_eq_true_eq] at hb
    exact hb
   ·cases hs
 | sidx x i =>
   simp only[opSem] at hs
   simp only[preB] at hb
   split at hs
   ·rename_i s k n hx hy
    cases hs
    simp only[hx,hy,Bool.and_eq_true,decide_eq_true_eq] at hb
    exact hb
   ·cases hs
 | aidx x i len esz ag =>
   simp only[opSem] at hs
   simp only[preB] at hb
   split at hs
   ·rename_i cs k n hx hy
    cases hs
    simp only[hx,hy,Bool.and_eq_true,decide_eq_true_eq,Bool.or_eq_true] at hb
    exact⟨hb.1.1.1,hb.1.1.2,hb.1.2,fun h=>hb.2.resolve_left (by simp[h])⟩
   ·cases hs
 | slc x esz lo hi mx =>
   simp only[opSem] at hs
   simp only[preB] at hb
   split at hs
   ·rename_i esz' full xs hx
    split at hs
    ·rename_i l h hbd hmx
     cases hs
     simp only[hx,hbd,hmx,Bool.and_eq_true,decide_eq_true_eq,Bool.or_eq_true,List.isEmpty_iff] at hb
     exact⟨hb.1.1.1,hb.1.1.2,hb.1.2,hb.2⟩
    ·rename_i l h m hbd hmx
     cases hs
     simp only[hx,hbd,hmx,Bool.and_eq_true,decide_eq_true_eq,Bool.or_eq_true,List.isEmpty_iff] at hb
     exact⟨hb.1.1.1.1,hb.1.1.1.2,hb.1.1.2,hb.1.2,hb.2⟩
    ·cases hs
   ·rename_i g esz' off len full hx
    split at hs
    ·split at hs
     ·rename_i l h hbd hmx
      cases hs
      simp only[hx,hbd,hmx,Bool.and_eq_true,decide_eq_true_eq] at hb
      exact⟨hb.1.1,hb.1.2,hb.2⟩
     ·rename_i l h m hbd hmx
      cases hs
      simp only[hx,hbd,hmx,Bool.and_eq_true,decide_eq_true_eq] at hb
      exact⟨hb.1.1.1,hb.1.1.2,hb.1.2,hb.2⟩
     ·cases hs
    ·cases hs
   ·cases hs
 | sslc x lo hi =>
   simp only[opSem] at hs
   simp only[preB] at hb
   split at hs
   ·rename_i s hx
    split at hs
    ·rename_i l h hbd
     cases hs
     simp only[hx,hbd,Bool.and_eq_true,decide_eq_true_eq] at hb
     exact⟨hb.1.1,hb.1.2,hb.2⟩
    ·cases hs
   ·cases hs
 | ext x i =>
   simp only[opSem] at hs
   simp only[preB] at hb
   split at hs
   ·rename_i vs hx
    cases hs
    simp only[hx,decide_eq_true_eq] at hb
    exact hb
   ·cases hs
 | app s x esz =>
   simp only[opSem] at hs
   simp only[preB] at hb
   rw[Bool.and_eq_true] at hb
   obtain⟨hb1,hb⟩:=hb
   split at hs
   ·rename_i po xe rd cx hro
    have hpo:=rowsB_ok hro hb1
    simp only[hro] at hb
    split at hs
    ·rename_i esz' full xs hgs
     simp only[hgs] at hb
     split at hs
     ·rename_i hnil
      cases hs
      rw[if_pos hnil] at hb
      simp only[Bool.and_eq_true,decide_eq_true_eq,Bool.or_eq_true,List.isEmpty_iff] at hb
      exact⟨hpo,hb.1.1,hb.1.2,hb.2⟩
     rename_i hnil
     rw[if_neg hnil] at hb
     split at hs
     ·cases hs; exact hpo
     ·rename_i hemp
      split at hs
      ·cases hs
       simp only[Bool.and_eq_true,decide_eq_true_eq,Bool.or_eq_true,List.isEmpty_iff] at hb
       have hb:=hb.resolve_left (by simpa using hemp)
       exact⟨hpo,hb.1.1.1.1,hb.1.1.1.2,hb.1.1.2,hb.1.2,hb.2⟩
      ·cases hs
    ·rename_i g esz' off len full hgs
     split at hs
     ·rename_i e he
      simp only[hgs,he,Bool.and_eq_true,decide_eq_true_eq,Bool.or_eq_true,List.isEmpty_iff] at hb
      split at hs
      ·cases hs
      ·split at hs
       ·split at hs
        ·rename_i hf
         cases hs
         simp only[Bool.and_eq_true,Bool.not_eq_true',List.isEmpty_eq_false_iff] at hf
         exact⟨hpo,hb.1.1.resolve_left hf.2,hb.1.2,hb.2⟩
        ·cases hs
       ·cases hs
        exact⟨hpo,hb.1.1,hb.1.2,hb.2⟩
     ·cases hs
    ·cases hs
   ·cases hs
 | appz s n esz z =>
   simp only[opSem] at hs
   simp only[preB] at hb
   split at hs
   ·rename_i e k m h1 h2
    cases hs
    simp only[h2,Bool.and_eq_true,decide_eq_true_eq] at hb
    exact⟨hb.1.1.1,hb.1.1.2,hb.1.2,hb.2⟩
   ·cases hs
 | b2s x =>
   simp only[opSem] at hs
   simp only[preB,Bool.and_eq_true] at hb
   obtain⟨hb1,hb⟩:=hb
   split at hs
   ·cases hs
   ·split at hs
    ·rename_i po xe rd cx hro
     split at hs
     ·cases hs
      simp only[hro,decide_eq_true_eq] at hb
      exact⟨rowsB_ok hro hb1,hb⟩
     ·cases hs
    ·cases hs
 | mksl esz z l c =>
   simp only[opSem] at hs
   simp only[preB] at hb
   split at hs
   ·rename_i k1 n k2 m h1 h2
    cases hs
    simp only[h1,h2,Bool.and_eq_true,decide_eq_true_eq] at hb
    exact⟨hb.1.1.1.1,hb.1.1.1.2,hb.1.1.2,hb.1.2,hb.2⟩
   ·cases hs
 | mv x=>simp only[opSem,Option.some.injEq] at hs; subst hs; trivial
 | alloc z=>simp only[opSem,Option.some.injEq] at hs; subst hs; trivial
 | mkfn f a b=>simp only[opSem,Option.some.injEq] at hs; subst hs; trivial
 | mkif t x=>simp only[opSem,Option.some.injEq] at hs; subst hs; trivial
 | nilck x=>simp only[opSem] at hs; split at hs<;>first|(cases hs; done)|(simp only[Option.some.injEq] at hs; subst hs; trivial)
 | un op x=>simp only[opSem] at hs; split at hs<;>first|(cases hs; done)|(simp only[Option.some.injEq] at hs; subst hs; trivial)
 | conv k x=>simp only[opSem] at hs; split at hs<;>first|(cases hs; done)|(simp only[Option.some.injEq] at hs; subst hs; trivial)
 | faddr a n=>simp only[opSem] at hs; split at hs<;>first|(cases hs; done)|(simp only[Option.some.injEq] at hs; subst hs; trivial)
 | len x=>simp only[opSem] at hs; split at hs<;>first|(cases hs; done)|(simp only[Option.some.injEq] at hs; subst hs; trivial)
 | slen x=>simp only[opSem] at hs; split at hs<;>first|(cases hs; done)|(simp only[Option.some.injEq] at hs; subst hs; trivial)
 | cap x=>simp only[opSem] at hs; split at hs<;>first|(cases hs; done)|(simp only[Option.some.injEq] at hs; subst hs; trivial)
 | minmax b x y =>
   simp only[opSem] at hs
   split at hs
   ·split at hs
    ·cases hs; trivial
    ·cases hs
   ·cases hs
 | call _ _=>simp[opSem] at hs
 | dcall _ _=>simp[opSem] at hs
 | nilcmp _ _=>simp[opSem] at hs
 | bad=>simp[opSem] at hs
 | mmk _=>simp[opSem] at hs
 | mset _ _ _ _=>simp[opSem] at hs
 | look m k=>simp only[opSem] at hs; split at hs<;>first|(cases hs; done)|(simp only[Option.some.injEq] at hs; subst hs; trivial)
 | clr x esz =>
   simp only[opSem] at hs
   simp only[preB] at hb
   split at hs
   ·cases hs; trivial
   ·rename_i g esz' off len full hgs
    simp only[hgs] at hb
    split at hs
    ·rename_i e he
     simp only[he,decide_eq_true_eq] at hb
     split at hs
     ·cases hs
     ·cases hs; exact hb
    ·cases hs
   ·cases hs
end Go.Proofs.YtjipnamfdmllmaaGreatDoor.Pv
namespace Go.Proofs.YtjipnamfdmllmaaGreatDoor.Pv
open Go Go.RowKit
inductive Res where
 | val (r:PV)
 | own (esz:Nat) (xs:List (List PV))
def evPlain (key:Key) (get:MO→PV) (hl:Key→Option HE) (i:MI):Option Out :=
 match i with
 | .nilcmp ne x=>match get x with
   | .vec _ _ (_::_)=>some ⟨True,[],.bool (false != ne),[]⟩
   | .own _ _ _ (_+1) _=>some ⟨True,[],.bool (false != ne),[]⟩
   | _=>none
 | i=>match opSem key get hl i with
   | some o=>if preB get hl i then some o else none
   | none=>none
theorem doOp_sem {P:Program} {key:Key} {get:MO→PV} {hl:Key→Option HE} {i:MI} {o:Out} {K:Out→Prop} (h:opSem key get hl i=some o) (hK:K o):doOp P key get hl i K:=by
 unfold doOp
 split
 ·simp[opSem] at h
 ·simp[opSem] at h
 ·simp[opSem] at h
 ·simp only[h]; exact hK
theorem evPlain_ok {P:Program} {key:Key} {get:MO→PV} {hl:Key→Option HE} {i:MI} {o:Out} (h:evPlain key get hl i=some o):doOp P key get hl i fun o'=>o'.pre∧o'=o:=by
 unfold evPlain at h
 split at h
 ·rename_i ne x
  split at h
  ·rename_i e f y ys hx
   cases h
   simp only[doOp,hx]
   intro b hb
   cases b with
   | true=>exact absurd (hb rfl) (by simp)
   | false=>exact⟨trivial,rfl⟩
  ·rename_i g e off n f hx
   cases h
   simp only[doOp,hx]
   intro b hb
   cases b with
   | true=>exact absurd (hb rfl) (by simp)
   | false=>exact⟨trivial,rfl⟩
  ·cases h
 ·split at h
  ·rename_i o' ho
   split at h
   ·rename_i hp
    cases h
    exact doOp_sem ho ⟨preB_ok ho hp,rfl⟩
   ·cases h
  ·cases h
def BIG:Nat:=1000000000000000
def gOf (st:St) (m:MOp):Option Bool:=match m.g with
 | none=>some true
 | some (t,want)=>guardC (lk t st.s) want
def evOp (N:Nat) (m:MOp) (st:St):Option Out:=match m.g with
 | none=>evPlain (m.dst.getD 0,N) st.get (fun k=>hk k st.h) m.i
 | some (t,want)=>match guardC (lk t st.s) want with
   | none=>none
   | some gb =>
     if m.soft then
      (match opSem (m.dst.getD 0,N) (softGet m.i st.get) (fun k=>hk k st.h) m.i with
      | some o=>if (!gb||preB (softGet m.i st.get) (fun k=>hk k st.h) m.i)&&(m.i.isPick||optsOkB gb st.get m.i.ops)&&o.hu.isEmpty then some ⟨True,o.rd,.opt gb o.r,[]⟩ else none
      | none=>none)
     else if gb then evPlain (m.dst.getD 0,N) st.get (fun k=>hk k st.h) m.i else some ⟨True,[],skipV,[]⟩
theorem evOp_ok {P:Program} {N:Nat} {m:MOp} {st:St} {o:Out} (h:evOp N m st=some o):StepTo P m N st o:=by
 have plain:evPlain (m.dst.getD 0,N) st.get (fun k=>hk k st.h) m.i=some o→doOp P (m.dst.getD 0,N) st.get (fun k=>hk k st.h) m.i fun o'=>o'.pre∧o'=o∧st.put m.dst o'=st.put m.dst o:=fun h =>
  doOp_mono (fun o' ho=>⟨ho.1,ho.2,by rw[ho.2]⟩) (evPlain_ok (P:=P) h)
 unfold evOp at h
 unfold StepTo stepOp
 cases hg:m.g with
 | none =>
   rw[hg] at h
   exact plain h
 | some tw =>
   obtain⟨t,want⟩:=tw
   rw[hg] at h
   simp only at h ⊢
   cases hgb:guardC (lk t st.s) want with
   | none=>rw[hgb] at h; cases h
   | some gb =>
     rw[hgb] at h
     simp only at h ⊢
     by_cases hs:m.soft=true
     ·rw[if_pos hs] at h ⊢
      split at h
      ·rename_i o' ho
       split at h
       ·rename_i hc
        cases h
        simp only[Bool.and_eq_true,Bool.or_eq_true,Bool.not_eq_true',List.isEmpty_iff] at hc
        obtain⟨⟨h1,h2⟩,h3⟩:=hc
        exact doOp_sem ho ⟨fun e=>preB_ok ho (h1.resolve_left (by simp[e])),(by
         unfold softOk
         split
         ·trivial
         ·rename_i hnp
          exact optsOkB_ok _ (h2.resolve_left hnp)),h3,rfl,rfl⟩
       ·cases h
      ·cases h
     ·rw[if_neg hs] at h ⊢
      cases gb with
      | true=>exact⟨fun _=>plain h,fun e=>by cases e⟩
      | false =>
        cases h
        exact⟨fun e=>(by cases e),fun _=>⟨rfl,skip_put _ _⟩⟩
def callee (st:St):MI→Option (FuncId × List PV)
 | .call f args=>some (f,args.map st.get)
 | .dcall f args=>match st.get f with
   | .fn fid first caps=>some (fid,first++args.map st.get++caps)
   | _=>none
 | _=>none
def MI.isCall:MI→Bool
 | .call _ _|.dcall _ _=>true
 | _=>false
def CpOk (P:Program) (cp:FuncId→List PV→Option Res):Prop :=
 ∀ f args,(∀ r,cp f args=some (.val r)→Ret P f args r)∧∀ esz xs,cp f args=some (.own esz xs)→RetO P f args esz xs
def evCallOut (cp:FuncId→List PV→Option Res) (key:Key) (hl:Key→Option HE) (f:FuncId) (args:List PV):Option Out :=
 if okLB hl args then
  (match cp f (reifyL hl args) with
  | some (.val r)=>some (callOut hl args r)
  | some (.own esz xs)=>some (callOutO hl args key esz xs)
  | none=>none)
 else none
theorem evCallOut_ok {P:Program} {cp:FuncId→List PV→Option Res} (hcp:CpOk P cp) {key:Key} {hl:Key→Option HE} {f:FuncId} {args:List PV} {o:Out} (h:evCallOut cp key hl f args=some o):doCall P key hl f args fun o'=>o'.pre∧o'=o:=by
 unfold evCallOut at h
 split at h
 ·rename_i hok
  split at h
  ·rename_i r hr
   cases h
   exact .inl ⟨r,(hcp _ _).1 r hr,okLB_ok _ hok,rfl⟩
  ·rename_i esz xs hr
   cases h
   exact .inr ⟨esz,xs,(hcp _ _).2 esz xs hr,okLB_ok _ hok,rfl⟩
  ·cases h
 ·cases h
def evCallP (cp:FuncId→List PV→Option Res) (N:Nat) (m:MOp) (st:St):Option Out :=
 if m.soft then none else
 match gOf st m with
 | some true=>(match callee st m.i with
   | some (f,args)=>evCallOut cp (m.dst.getD 0,N) (fun k=>hk k st.h) f args
   | none=>none)
 | some false=>some ⟨True,[],skipV,[]⟩
 | none=>none
theorem doCall_mono {P:Program} {key:Key} {hl:Key→Option HE} {f:FuncId} {args:List PV} {K K' : Out→Prop} (h:∀ o,K o→K' o) (hd:doCall P key hl f args K):doCall P key hl f args K':=by
 rcases hd with ⟨r,h1,h2⟩|⟨e,xs,h1,h2⟩
 ·exact .inl ⟨r,h1,h _ h2⟩
 ·exact .inr ⟨e,xs,h1,h _ h2⟩
theorem evCallP_ok {P:Program} {cp:FuncId→List PV→Option Res} (hcp:CpOk P cp) {N:Nat} {m:MOp} {st:St} {o:Out} (hc:m.i.isCall=true) (h:evCallP cp N m st=some o):StepTo P m N st o:=by
 unfold evCallP at h
 split at h
 ·cases h
 rename_i hsoft
 have hd:∀ f args,callee st m.i=some (f,args)→doCall P (m.dst.getD 0,N) (fun k=>hk k st.h) f args (fun o'=>o'.pre∧o'=o)→doOp P (m.dst.getD 0,N) st.get (fun k=>hk k st.h) m.i fun o'=>o'.pre∧o'=o∧st.put m.dst o'=st.put m.dst o:=fun f args hcl hd=>by
  have hd':=doCall_mono (K':=fun o'=>o'.pre∧o'=o∧st.put m.dst o'=st.put m.dst o) (fun o' ho=>by obtain⟨h1,rfl⟩:=ho; exact⟨h1,rfl,rfl⟩) hd
  unfold callee at hcl
  unfold doOp
  split at hcl
  ·cases hcl; rename_i heq; simp only[heq]; exact hd'
  ·rename_i heq
   split at hcl
   ·rename_i hf
    cases hcl
    simp only[heq,hf]; exact hd'
   ·cases hcl
  ·cases hcl
 split at h
 ·rename_i hg
  split at h
  ·rename_i f args hcl
   have hdo:=hd f args hcl (evCallOut_ok hcp h)
   unfold StepTo stepOp
   unfold gOf at hg
   split at hg
   ·rename_i hmg
    simp only[hmg]; exact hdo
   ·rename_i t want hmg
    simp only[hmg,hg,if_neg hsoft]
    exact⟨fun _=>hdo,fun e=>by cases e⟩
  ·cases h
 ·rename_i hg
  cases h
  unfold StepTo stepOp
  unfold gOf at hg
  split at hg
  ·cases hg
  ·rename_i t want hmg
   simp only[hmg,hg,if_neg hsoft]
   exact⟨fun e=>absurd e (by simp),fun _=>⟨trivial,skip_put _ _⟩⟩
 ·cases h
def evStep (cp:FuncId→List PV→Option Res) (N:Nat) (m:MOp) (st:St):Option Out:=if m.i.isCall then evCallP cp N m st else evOp N m st
theorem evStep_ok {P:Program} {cp:FuncId→List PV→Option Res} (hcp:CpOk P cp) {N:Nat} {m:MOp} {st:St} {o:Out} (h:evStep cp N m st=some o):StepTo P m N st o:=by
 unfold evStep at h
 split at h
 ·rename_i hc; exact evCallP_ok hcp hc h
 ·exact evOp_ok h
theorem stepOp_mono {P:Program} {m:MOp} {v:Nat} {st:St} {K K' : Out→St→Prop} (h:∀ o s,K o s→K' o s) (hs:stepOp P m v st K):stepOp P m v st K':=by
 unfold stepOp at hs ⊢
 split at hs
 ·exact doOp_mono (fun o ho=>⟨ho.1,h _ _ ho.2⟩) hs
 ·split at hs
  ·exact hs.elim
  ·split at hs
   ·rename_i hsoft
    rw[if_pos hsoft]
    exact doOp_mono (fun o ho=>⟨ho.1,ho.2.1,ho.2.2.1,h _ _ ho.2.2.2⟩) hs
   ·rename_i hsoft
    rw[if_neg hsoft]
    exact⟨fun e=>doOp_mono (fun o ho=>⟨ho.1,h _ _ ho.2⟩) (hs.1 e),fun e=>h _ _ (hs.2 e)⟩
def evD (cp:FuncId→List PV→Option Res) (un:List (Nat × Nat)) (N:Nat):List MOp→List (List Nat × List Nat)→St→Option St
 | [],acc,st=>if okPairs un acc then some st else none
 | m::ms,acc,st=>if m.i.isNil then none else match evStep cp N m st with
   | some o=>evD cp un N ms (acc++[(o.rd,tagsHu o.hu)]) (st.put m.dst o)
   | none=>none
theorem evD_ok {P:Program} {cp:FuncId→List PV→Option Res} (hcp:CpOk P cp) {un:List (Nat × Nat)} {N:Nat}:∀ (ms:List MOp) (acc:List (List Nat × List Nat)) (st st' : St),evD cp un N ms acc st=some st'→runD P un N ms acc st fun s=>s=st'
 | [],acc,st,st',h=>by
   simp only[evD] at h
   split at h
   ·rename_i hp
    cases h
    exact⟨hp,rfl⟩
   ·cases h
 | m::ms,acc,st,st',h=>by
   simp only[evD] at h
   split at h
   ·cases h
   ·rename_i hn
    split at h
    ·rename_i o ho
     refine⟨?_,stepOp_mono (fun o' s hs=>?_) (evStep_ok hcp ho)⟩
     ·cases hm:m.i<;>first|trivial|(rw[hm] at hn; exact hn rfl)
     ·obtain⟨rfl,rfl⟩:=hs
      exact evD_ok hcp ms _ _ _ h
    ·cases h
def Bnd (c:Ctx) (N:Nat):Prop:=∀ k:Key,c.U k→k.2<N∨BIG≤k.2
def CiOk (P:Program) (ci:FuncId→List PV→List (Key × Option HE)→Nat→Option (PV × List (Key × Option HE) × Nat)):Prop :=
 ∀ f args h N r h' N',ci f args h N=some (r,h',N')→callable P f=true∧∀ (E:Env) (a:Act) (c:Ctx) (w:World) (vs:List Value) (d:Option Nat) (s:List (Nat × PV)),E.P=P→Good E ⟨s,h⟩ c a w→Bnd c N→RepL w c args vs →
   Calls P f vs.toArray w fun e w'=>∃ v,e=.returned v∧∃ c',Good E ⟨putS d r s,h'⟩ c' (a.put d v) w'∧Bnd c' N'
def inlM (mode:FuncId→Bool) (st:St) (i:MI):Bool:=match callee st i with
 | some (f,_)=>mode f
 | none=>false
def evCallI (ci:FuncId→List PV→List (Key × Option HE)→Nat→Option (PV × List (Key × Option HE) × Nat)) (N:Nat) (m:MOp) (st:St):Option (St × Nat) :=
 match gOf st m with
 | some true=>(match callee st m.i with
   | some (f,args)=>(match ci f args st.h N with
     | some (r,h',N')=>some (⟨putS m.dst r st.s,h'⟩,N')
     | none=>none)
   | none=>none)
 | some false=>some (st.skip m.dst,N)
 | none=>none
def evOne (mode:FuncId→Bool) (cp:FuncId→List PV→Option Res) (ci:FuncId→List PV→List (Key × Option HE)→Nat→Option (PV × List (Key × Option HE) × Nat)) (N:Nat) (m:MOp) (st:St):Option (St × Nat) :=
 if inlM mode st m.i then evCallI ci N m st else if Nat.blt N BIG then (match evStep cp N m st with|some o=>some (st.put m.dst o,N+1)|none=>none) else none
def evRun (mode:FuncId→Bool) (cp:FuncId→List PV→Option Res) (ci:FuncId→List PV→List (Key × Option HE)→Nat→Option (PV × List (Key × Option HE) × Nat)):List MOp→St→Nat→Option (St × Nat)
 | [],st,N=>some (st,N)
 | m::ms,st,N=>match evOne mode cp ci N m st with
   | some (st',N')=>evRun mode cp ci ms st' N'
   | none=>none
section
variable {E:Env} {st:St} {c:Ctx} {a:Act} {w:World}
theorem callee_runs (hg:Good E st c a w) {ops:Array Oper} {soft:Bool} {o:Oper} {m:MOp} (hm:toOp E.P E.nt ops soft o=some m) {f:FuncId} {args:List PV} (hc:callee st m.i=some (f,args)) (hcb:callable E.P f=true) {R:Value→World→Prop}
 (h:∀ vs,RepL w c args vs→Calls E.P f vs.toArray w fun e w'=>∃ v,e=.returned v∧R v w'):Runs E.P a.eval o w R:=by
 obtain⟨hi,hdst,hgd⟩:=toOp_spec hm
 unfold callee at hc
 split at hc
 ·rename_i f' args' hmi
  cases hc
  rw[hmi] at hi
  obtain⟨cl,ho,hcl,hc,hargs⟩:=toI_call (hi.resolve_right (by simp))
  refine .inr ⟨f,_,?_,h (cl.args.toList.map a.eval) (toOs_RepL _ _ _ hargs (fun t x m h _=>hg.get h))⟩
  rw[run_call ho hcl (a:=#[]) (b:=#[]) rfl hcb]
  congr 2
  apply Array.ext'
  simp
 ·rename_i f' args' hmi
  split at hc
  ·rename_i fid first caps hf
   cases hc
   rw[hmi] at hi
   obtain⟨cl,t,ho,hcl,ht,rfl,hargs⟩:=toI_dcall (hi.resolve_right (by simp))
   have hft:=hg.get (t:=0) (x:=.tmp t) (m:=.t t) (by simp[toO,ht])
   rw[hf] at hft
   obtain⟨x,y,e1,r1,r2⟩:=hft
   refine .inr ⟨f,_,?_,h (x.toList++cl.args.toList.map a.eval++y.toList) (RepL.append (RepL.append r1 (toOs_RepL _ _ _ hargs (fun t x m h _=>hg.get h))) r2)⟩
   rw[run_call ho hcl (a:=x) (b:=y) e1 hcb]
   congr 2
   apply Array.ext'
   simp
  ·cases hc
 ·cases hc
theorem gOf_wanted (hg:Good E st c a w) {ops:Array Oper} {soft:Bool} {o:Oper} {m:MOp} (hm:toOp E.P E.nt ops soft o=some m) {gb:Bool} (h:gOf st m=some gb):Region.wanted o (yielded ops a.tmps)=gb:=by
 obtain⟨hi,hdst,hgd⟩:=toOp_spec hm
 unfold gOf at h
 rcases hgd with ⟨hg1,hg2⟩|⟨j,want,t,hg1,hg2,hlt,hg3⟩
 ·rw[hg2] at h
  cases h
  simp[Region.wanted,hg1]
 ·rw[hg3] at h
  exact guard_wanted hg hg1 hg2 hlt h
theorem evRun_ok {cp:FuncId→List PV→Option Res} (hcp:CpOk E.P cp) {ci:FuncId→List PV→List (Key × Option HE)→Nat→Option (PV × List (Key × Option HE) × Nat)} (hci:CiOk E.P ci) {mode:FuncId→Bool} {ops:Array Oper} {soft:Bool} {Q:Exit→Act→World→Prop} {stF:St} {NF:Nat}
 (hQ:∀ c a w,Good E stF c a w→Bnd c NF→Q .normal a w):∀ (l:List Oper) (ms:List MOp) (st:St) (N:Nat) (c:Ctx) (a:Act) (w:World),toOps E.P E.nt ops soft l=some ms→evRun mode cp ci ms st N=some (stF,NF)→Good E st c a w→Bnd c N→wpList E.P ops Q l a w
 | [],ms,st,N,c,a,w,h,he,hg,hb=>by
   simp only[toOps,Option.some.injEq] at h
   subst h
   simp only[evRun,Option.some.injEq,Prod.mk.injEq] at he
   obtain⟨rfl,rfl⟩:=he
   exact hQ c a w hg hb
 | o::l,ms,st,N,c,a,w,h,he,hg,hb=>by
   simp only[toOps] at h
   split at h
   ·rename_i m ms' h1 h2
    cases h
    simp only[evRun] at he
    split at he
    ·rename_i st' N' hone
     unfold wpList
     have hdst:=(toOp_spec h1).2.1
     unfold evOne at hone
     split at hone
     ·
       unfold evCallI at hone
       split at hone
       ·rename_i hgo
        split at hone
        ·rename_i f args hcl
         split at hone
         ·rename_i r h' N'' hcall
          cases hone
          obtain⟨hcb,hcc⟩:=hci _ _ _ _ _ _ _ hcall
          rw[if_pos (gOf_wanted hg h1 hgo)]
          refine .inl (Runs.wp (callee_runs hg h1 hcl hcb fun vs hr=>Calls.mono (hcc E a c w vs m.dst st.s rfl hg hb hr) ?_))
          rintro e w' ⟨v,hev,c',hg',hb'⟩
          exact⟨v,hev,evRun_ok hcp hci hQ l ms' _ _ c' _ w' h2 he (by rw[← hdst]; exact hg') hb'⟩
         ·cases hone
        ·cases hone
       ·rename_i hgo
        cases hone
        rw[if_neg (by rw[gOf_wanted hg h1 hgo]; simp)]
        exact evRun_ok hcp hci hQ l ms' _ _ c _ w h2 he (hg.put (d:=o.dst) (r:=skipV) (by rw[← hdst]; rfl) (by simpa[St.skip] using hg.hgood) ⟨fun h=>(by cases h),fun _=>rfl⟩ (Ctx.Le.refl c) (Mono.refl _ _)) hb
       ·cases hone
     ·split at hone
      ·rename_i hlt
       split at hone
       ·rename_i o' ho'
        cases hone
        have hN:N<BIG:=by simpa[Nat.blt_eq] using hlt
        have hkey:¬ c.U (m.dst.getD 0,N):=fun hu=>by
         rcases hb _ hu with h|h
         ·exact Nat.lt_irrefl _ h
         ·simp only at h; omega
        have hb' : ∀ c' : Ctx,(∀ k:Key,c'.U k→c.U k∨k=(m.dst.getD 0,N))→Bnd c' (N+1):=fun c' hc' k hk=>by
         rcases hc' k hk with h|rfl
         ·exact (hb k h).imp (fun h=>by omega) (fun h=>h)
         ·exact .inl (Nat.lt_succ_self _)
        obtain⟨s1,s2⟩:=step_sound hg h1 hkey (evStep_ok hcp ho')
        split
        ·rename_i hw
         refine .inl (Runs.wp ((s1 hw).mono ?_))
         rintro u w' ⟨_,st'',c',⟨rfl,rfl⟩,hg',hU⟩
         exact evRun_ok hcp hci hQ l ms' _ _ c' _ w' h2 he hg' (hb' c' hU)
        ·rename_i hw
         obtain⟨_,st'',c',⟨rfl,rfl⟩,hg',hU⟩:=s2 (by simpa using hw)
         exact evRun_ok hcp hci hQ l ms' _ _ c' _ w h2 he hg' (hb' c' hU)
       ·cases hone
      ·cases hone
    ·cases he
   ·cases h
end
end Go.Proofs.YtjipnamfdmllmaaGreatDoor.Pv

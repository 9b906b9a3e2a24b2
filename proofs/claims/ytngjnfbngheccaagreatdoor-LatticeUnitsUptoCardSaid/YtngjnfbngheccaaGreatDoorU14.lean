/- Part 14. -/
import Derived.Test.YtngjnfbngheccaaGreatDoorU13
import Derived.Test.YtngjnfbngheccaaGreatDoorProg
import Derived.WalkKit
import Derived.WalkMore
import Derived.Below
import Derived.Shelf.Unicode.ValidAny
import Derived.Shelf.SlIter.Nil
import Derived.Shelf.SortM.Plain
import Derived.Shelf.SortM.SortNone
import Derived.Shelf.SlicesG.CompactS
import Derived.Ground.GgzProg
import Derived.Ground.SlgmProg
import Derived.Ground.SlgnProg
import Derived.Ground.NamesProg
set_option linter.unusedSimpArgs false
set_option linter.unusedVariables false
set_option maxRecDepth 100000
namespace Go.Proofs.YtngjnfbngheccaaGreatDoor.Pv
open Go Go.Tidy
set_option maxHeartbeats 4000000 in
theorem arX (h:Int) (N:Ty→Ty) (NM:List S) (B m:Nat) (hN:ae6 M.jq h N NM B) (hNf:∀ t,aj t=true→aj (N t)=true) (hNn:∀ t,aj t=true→never (N t)=never t) (hNb:∀ t m,bdT NM m t→bdT NM 4 (N t)) (h3:NM.length≤1073741824) (hM:4*(NM.length+1)≤B) (o:Ob) (ho:bg o=true) (hbo:bdO NM m o) (hm:m≤B) :
 Ret prog M.su [.agg (cO o),.int .i64 h] (.agg (cO (gq N o))):=by
 refine Ret.go ah ayy (by simp) fun hb w0 F0 hG=>?_
 obtain⟨o1,o2,o3,o4,o5,o6⟩:=dH ho
 have hT:gq N o=FQ N (.mk o.names (o.fields.map N) o.must (N o.rest)):=rfl
 have hfo:bg (.mk o.names (o.fields.map N) o.must (N o.rest))=true:=by
  refine Rz (by simp[o1]) o2 o3 (hNf _ o4) (fun f hf=>?_) (fun p hp hm=>?_)
  ·obtain⟨t,ht,rfl⟩:=List.mem_map.1 hf
   exact hNf t (o5 t ht)
  ·simp only[Ob.uy,Ob.aaR] at hp
   have:(o.fields.map N).zip o.must=(o.fields.zip o.must).map fun p=>(N p.1,p.2):=by
    rw[← List.map_id o.must,List.zip_map]; simp
   rw[this] at hp
   obtain⟨x,hx,rfl⟩:=List.mem_map.1 hp
   rw[hNn _ (o5 _ (List.of_mem_zip hx).1)]
   exact o6 x hx hm
 have hbo' : bdO NM 4 (.mk o.names (o.fields.map N) o.must (N o.rest)):=⟨hbo.1,fun f hf=>by
  obtain⟨t,ht,rfl⟩:=List.mem_map.1 hf
  exact hNb t m (hbo.2.1 t ht),hNb _ m hbo.2.2⟩
 have c1:=aKn h N NM B hN hNf h3 hM _ hfo hbo'
 rw[← hT] at c1
 generalize gq N o=R at *
 have hnl:o.names.length≤NM.length:=NI (oq ho) hbo.1
 simp
 intros
 rename_i v0 v1 v2
 refine aH.ret (hN o.rest m o4 hbo.2.2 hm) ?_
 simp
 generalize N o.rest=r at *
 obtain⟨J,hJ⟩ : ∃ J:Nat→List Ty→Prop,J=fun k fs=>fs=(o.fields.take k).map N:=⟨_,rfl⟩
 refine aU.KG ah [(2000005,9,1001)] rfl o.fields.length (fun v k fs=>⟨[(6,.int .i64 k),(5,.ptr (5,v2) 12 0 0),(4,.ptr (4,v1) 12 0 0),(2,.ptr (2,v0) 12 0 0),(1,.int .i64 h)],
  [((5,v2),some ⟨12,[atz (.vec 1 false (o.names.map encStr)) (.own (1001,v) 9 0 fs.length false) (.vec 1 false (o.must.map lU)) r],false,true⟩),((1001,v),some ⟨9,fs.map fq,false,false⟩),((4,v1),some ⟨12,[M.z4],false,true⟩),((2,v0),some ⟨12,[cO o],false,true⟩)]⟩) J [] (by rw[hJ]; rfl) (by simp) fun v k fs _ hk hj=>?_
 have hw:=wrap64 (n:=(k:Int)+1) (by omega) (by omega)
 have hj' : fs=(o.fields.take k).map N:=by rw[hJ] at hj; exact hj
 have hll:fs.length=k:=by rw[hj']; simp; omega
 by_cases g:k<o.fields.length
 ·have hst:=xQ N g
  rw[← hj'] at hst
  have c2:=hN o.fields[k] m (o5 _ (List.getElem_mem g)) (hbo.2.1 _ (List.getElem_mem g)) hm
  simp[g]
  intros
  refine aH.ret c2 ?_
  simp[hw,g]
  exact⟨by omega,fs++[N o.fields[k]],by rw[hJ]; exact hst.symm,fun _=>by simp⟩
 ·have e1:fs=o.fields.map N:=by rw[hj',List.take_of_length_le (by omega)]
  rw[← e1] at c1
  have c4:Ret prog M.ab2 [.agg [.vec 1 false (o.names.map encStr),.vec 9 false (fs.map fq),.vec 1 false (o.must.map lU),.bool r.all,.bool r.null,.bool r.fls,.bool r.tru,.vec 2 false (r.nums.map dw),.bool r.any,.vec 1 false (r.texts.map encStr),.vec 11 false (r.arrays.map dz),.vec 12 false (r.objects.map au)],.int .i64 h] (.agg (cO R)):=c1
  simp[g]
  refine ak.ret (r:=.agg (cO R)) (by simpa using c4) ?_
  simp
theorem aKS {l:List Ob} {k:Nat} (hk:k<l.length):iY (l.take (k+1))=aav l[k] (iY (l.take k)):=by
 unfold iY
 rw[List.take_add_one,List.getElem?_eq_getElem hk]
 simp only[Option.toList_some,List.foldl_append,List.foldl_cons,List.foldl_nil]
set_option maxHeartbeats 4000000 in
theorem aoJ (h:Int) (N:Ty→Ty) (NM:List S) (B:Nat) (l:List Ob) (hf:∀ o∈l,bg o=true) (hb4:∀ o∈l,bdO NM 4 o) (h3:NM.length≤1073741824) (hl:l.length≤4294967296)
 (hW:4<(dN [] (iY l)).length→Ret prog M.su [.agg (cO (yj ((dN [] (iY l)).drop 3))),.int .i64 h] (.agg (cO (gq N (yj ((dN [] (iY l)).drop 3))))))
 (hO:4<(dN [] (iY l)).length→gU prog M.oU [.vec 12 false (((dN [] (iY l)).take 3++[gq N (yj ((dN [] (iY l)).drop 3))]).map au),.int .i64 h] 12 ((dN [] (iY ((dN [] (iY l)).take 3++[gq N (yj ((dN [] (iY l)).drop 3))]))).map au)) :
 gU prog M.oU [.vec 12 false (l.map au),.int .i64 h] 12 ((nG N l).map au):=by
 refine gU.go ah auq (by simp) fun hb w0 F0 hG=>?_
 have hT:nG N l=if (dN [] (iY l)).length≤4 then dN [] (iY l) else dN [] (iY ((dN [] (iY l)).take 3++[gq N (yj ((dN [] (iY l)).drop 3))])):=rfl
 have hr:∀ o∈iY l,o∈l:=(uq l).1
 have hrl:=(uq l).2.1
 have hq:∀ x∈dN [] (iY l),x∈l:=fun x hx=>(zi _ _ x hx).elim (fun h=>by cases h) (hr x)
 have hql:(dN [] (iY l)).length≤l.length:=by have:=(JC (iY l) []).1; simp at this; omega
 have c1:=aAl (iY l) (fun o ho=>aPc (vG (hf o (hr o ho))) (aDU (by omega) (hb4 o (hr o ho))) (by omega)) (by omega)
 generalize nG N l=R at *
 simp
 intro v0
 obtain⟨J,hJ⟩ : ∃ J:Nat→List Ob→Prop,J=fun k acc=>acc=iY (l.take k):=⟨_,rfl⟩
 refine aU.KG ah [(5,12,1005)] rfl l.length (fun v k (acc:List Ob)=>⟨[(6,.int .i64 k),(5,.own (1005,v) 12 0 acc.length false),(1,.int .i64 h),(0,.vec 12 false (l.map au))],[((1005,v),some ⟨12,acc.map au,false,false⟩)]⟩) J [] (by rw[hJ]; rfl) (by simp) fun v k acc _ hk hj=>?_
 have hw:=wrap64 (n:=(k:Int)+1) (by omega) (by omega)
 have hj' : acc=iY (l.take k):=by rw[hJ] at hj; exact hj
 by_cases g:k<l.length
 ·have hst:=aKS g
  rw[← hj'] at hst
  have hal:acc.length≤k:=by rw[hj']; have:=(uq (l.take k)).2.1; simp at this; omega
  have c2:=aGT acc l[k] (fun x hx=>hf x (List.mem_of_mem_take ((uq (l.take k)).1 x (by rw[← hj']; exact hx)))) (hf _ (List.getElem_mem g)) (by omega)
  simp[g]
  refine ak.zn (by simpa using c2) ?_
  simp[g,hw]
  exact⟨aav l[k] acc,by rw[hJ]; exact hst.symm,fun _=>by simp⟩
 ·have e1:acc=iY l:=by rw[hj',List.take_of_length_le (by omega)]
  rw[← e1] at c1 hT hW hO hql hq
  simp[g]
  refine ak.zn (by simpa using c1) ?_
  generalize dN [] acc=row at *
  simp
  intro v1
  by_cases g4:row.length≤4
  ·have g4' : (row.length:Int)≤4:=by omega
   rw[if_pos g4] at hT
   simp[g4',hT]
   intro _; omega
  ·have g4' : ¬ (row.length:Int)≤4:=by omega
   rw[if_neg g4] at hT
   have hO':=hO (by omega)
   have hW':=hW (by omega)
   have c3:=aHx NM 4 (row.drop 3) (fun o ho=>hf o (hq o (List.mem_of_mem_drop ho))) (fun o ho=>hb4 o (hq o (List.mem_of_mem_drop ho))) (by omega) (by simp; omega) (by omega)
   have e3:((row.map au).drop 3).take (row.length-3)=(row.drop 3).map au:=by rw[List.take_of_length_le (by simp),List.map_drop]
   simp[g4']
   intro _ v2
   refine⟨by omega,fun v3=>⟨⟨by omega,by omega⟩,by omega,?_⟩⟩
   refine ak.ret (r:=.agg (cO (yj (row.drop 3)))) (by simpa[e3] using c3) ?_
   have m3:min 3 row.length=3:=by omega
   have t3:((row.map au).take 3).length=3:=by simp; omega
   generalize gq N (yj (row.drop 3))=X at *
   simp
   refine⟨by omega,?_⟩
   refine ak.ret hW' ?_
   simp[m3]
   intros
   have e4:(((row.map au).take 3).take 3).take 3++[cO X]=(row.take 3++[X]).map au:=by simp[List.take_take]
   have e5:List.take 4 (((row.map au).take 3).take 3++[cO X])=(row.take 3++[X]).map au:=by
    rw[List.take_of_length_le (by simp; omega),List.take_take]; simp
   rw[← hT,← e5] at hO'
   refine ak.zn (esz:=12) (xs:=R.map au) (by simp; exact hO') ?_
   simp[m3]
end Go.Proofs.YtngjnfbngheccaaGreatDoor.Pv
set_option maxRecDepth 100000
namespace Go.Proofs.YtngjnfbngheccaaGreatDoor.Pv
open Go Go.Tidy
abbrev afk (t:Ty) (any:Bool) (texts arrs objs:PV):List PV:=[.bool false,.bool t.null,.bool t.fls,.bool t.tru,.vec 2 false (t.nums.map dw),.bool any,texts,arrs,objs]
theorem ahF (h:Int) (t:Ty) (hz:t.all=true∨(h<1∧(t.arrays≠[]∨t.objects≠[]))):Ret prog M.jq [.agg (cT t),.int .i64 h] (.agg (cT dx)):=by
 refine Ret.go ah alc (by simp) fun hb w0 F0 hG=>?_
 cases e0:t.all
 ·obtain⟨h1,h2⟩ : h<1∧(t.arrays≠[]∨t.objects≠[]):=by simpa[e0] using hz
  by_cases ha:t.arrays=[]
  ·have hl:=List.length_pos_iff.2 (h2.resolve_left (fun h=>h ha))
   simp[e0,h1,ha,hl]
   intros
   refine ak.ret zY ?_
   simp[dx]
  ·have hl:=List.length_pos_iff.2 ha
   simp[e0,h1,ha,hl]
   intros
   refine ak.ret zY ?_
   simp[dx]
 ·simp[e0]
  intros
  refine ak.ret zY ?_
  simp[dx]
section
variable {w0:World} {F0:Nat→Prop} {hG:GOk prog w0 F0}
set_option maxHeartbeats 4000000 in
theorem aLD (h:Int) (t:Ty) (v2 v4 v5:Nat) (any:Bool) (texts:List S) (az:List Arr) (os:List Ob) (wf:Ob→Ob) (hh:IntKind.i64.wrap (h-1)=h-1) (hf:aj (.mk false t.null t.fls t.tru t.nums any texts az os)=true) (hl:t.objects.length≤34359738368)
 (hW:∀ o∈t.objects,Ret prog M.su [.agg (cO o),.int .i64 (h-1)] (.agg (cO (wf o))))
 (hO:gU prog M.oU [.vec 12 false ((t.objects.map wf).map au),.int .i64 (h-1)] 12 (os.map au)) :
 ∀ st:St,(∀ v,LS (nk [(7,12,1007)] v st) ⟨[(8,.int .i64 0),(7,.own (1007,v) 12 0 0 false),(5,.ptr (5,v5) 9 0 0),(4,.ptr (4,v4) 9 0 0),(2,.ptr (2,v2) 9 0 0),(1,.int .i64 h)],[((1007,v),some ⟨12,[],false,false⟩),((5,v5),some ⟨9,[afk t any (.vec 1 false (texts.map encStr)) (.vec 11 false (az.map dz)) (.vec 12 true [])],false,true⟩),((4,v4),some ⟨9,[M.z1],false,true⟩),((2,v2),some ⟨9,[cT t],false,true⟩)]⟩) →
 aU ⟨prog,w0,F0,112,[],0,hG⟩ (.loop M.ahN) st [.bk 2,.sq M.ah0]
  (yt M.Vk (.agg (cT (if jV (.mk false t.null t.fls t.tru t.nums any texts az os) laidAll then dx else .mk false t.null t.fls t.tru t.nums any texts az os)))):=by
 have cs:=apS (.mk false t.null t.fls t.tru t.nums any texts az os) laidAll hf ajv.1
 obtain⟨R,hR⟩ : ∃ R,R=(if jV (.mk false t.null t.fls t.tru t.nums any texts az os) laidAll then dx else Ty.mk false t.null t.fls t.tru t.nums any texts az os):=⟨_,rfl⟩
 rw[← hR]
 intro st hst0
 obtain⟨J,hJ⟩ : ∃ J:Nat→List Ob→Prop,J=fun k acc=>acc=(t.objects.take k).map wf:=⟨_,rfl⟩
 refine aU.KG ah [(7,12,1007)] rfl t.objects.length (fun v k (acc:List Ob)=>⟨[(8,.int .i64 k),(7,.own (1007,v) 12 0 acc.length false),(5,.ptr (5,v5) 9 0 0),(4,.ptr (4,v4) 9 0 0),(2,.ptr (2,v2) 9 0 0),(1,.int .i64 h)],[((1007,v),some ⟨12,acc.map au,false,false⟩),((5,v5),some ⟨9,[afk t any (.vec 1 false (texts.map encStr)) (.vec 11 false (az.map dz)) (.vec 12 true [])],false,true⟩),((4,v4),some ⟨9,[M.z1],false,true⟩),((2,v2),some ⟨9,[cT t],false,true⟩)]⟩) J [] (by rw[hJ]; rfl) (by simpa using hst0) fun v k acc _ hk hj=>?_
 have hw:=wrap64 (n:=(k:Int)+1) (by omega) (by omega)
 have hj' : acc=(t.objects.take k).map wf:=by rw[hJ] at hj; exact hj
 have hal:acc.length=k:=by rw[hj']; simp; omega
 by_cases g:k<t.objects.length
 ·have hst:=xQ wf g
  rw[← hj'] at hst
  simp[g,hh]
  refine ak.ret (hW _ (List.getElem_mem g)) ?_
  simp[g,hw]
  exact fun _=>⟨by omega,acc++[wf t.objects[k]],by rw[hJ]; exact hst.symm,fun _=>by simp⟩
 ·have e1:acc=t.objects.map wf:=by rw[hj',List.take_of_length_le (by omega)]
  rw[← e1] at hO
  simp[g,hh]
  refine ak.zn (by simpa using hO) ?_
  simp
  intro v8 v9
  refine aH.ret zY ?_
  simp
  refine aH.ret (apJ dx) ?_
  simp
  refine aH.ret (r:=.bool (jV (.mk false t.null t.fls t.tru t.nums any texts az os) laidAll)) (by simp; exact cs) ?_
  cases hs:jV (.mk false t.null t.fls t.tru t.nums any texts az os) laidAll<;>rw[hs] at hR
  ·simp[hR]
  ·simp
   refine ak.ret zY ?_
   simp[hR,dx]
set_option maxHeartbeats 4000000 in
theorem aK0 (h:Int) (t:Ty) (v2 v4 v5:Nat) (any:Bool) (texts:List S) (os:List Ob) (wf:Ob→Ob) (n:Ty→Ty) (hh:IntKind.i64.wrap (h-1)=h-1) (hf:aj (.mk false t.null t.fls t.tru t.nums any texts (t.arrays.map fun a=>.mk (n a.item) a.min a.max) os)=true) (hl:t.objects.length≤34359738368)
 (ha:t.arrays.length≤1) (hA:∀ a∈t.arrays,Ret prog M.jq [.agg (cT a.item),.int .i64 (h-1)] (.agg (cT (n a.item))))
 (hW:∀ o∈t.objects,Ret prog M.su [.agg (cO o),.int .i64 (h-1)] (.agg (cO (wf o))))
 (hO:gU prog M.oU [.vec 12 false ((t.objects.map wf).map au),.int .i64 (h-1)] 12 (os.map au)) :
 XC ⟨prog,w0,F0,112,[],0,hG⟩ M.aaC ⟨[(5,.ptr (5,v5) 9 0 0),(4,.ptr (4,v4) 9 0 0),(2,.ptr (2,v2) 9 0 0),(1,.int .i64 h)],[((5,v5),some ⟨9,[afk t any (.vec 1 false (texts.map encStr)) (.vec 11 true []) (.vec 12 true [])],false,true⟩),((4,v4),some ⟨9,[M.z1],false,true⟩),((2,v2),some ⟨9,[cT t],false,true⟩)]⟩ []
  (yt M.Vk (.agg (cT (if jV (.mk false t.null t.fls t.tru t.nums any texts (t.arrays.map fun a=>.mk (n a.item) a.min a.max) os) laidAll then dx else .mk false t.null t.fls t.tru t.nums any texts (t.arrays.map fun a=>.mk (n a.item) a.min a.max) os)))):=by
 have fin:=aLD (w0:=w0) (F0:=F0) (hG:=hG) h t v2 v4 v5 any texts _ os wf hh hf hl hW hO
 generalize hAs:(t.arrays.map fun a=>Arr.mk (n a.item) a.min a.max)=az at *
 generalize (if jV (.mk false t.null t.fls t.tru t.nums any texts az os) laidAll then dx else Ty.mk false t.null t.fls t.tru t.nums any texts az os)=R at *
 simp
 obtain⟨J,hJ⟩ : ∃ J:Nat→List Arr→Prop,J=fun k acc=>acc=(t.arrays.take k).map fun a=>.mk (n a.item) a.min a.max:=⟨_,rfl⟩
 refine aU.KG ah [(8000005,11,1008)] rfl t.arrays.length (fun v k (acc:List Arr)=>⟨[(6,.int .i64 k),(5,.ptr (5,v5) 9 0 0),(4,.ptr (4,v4) 9 0 0),(2,.ptr (2,v2) 9 0 0),(1,.int .i64 h)],[((5,v5),some ⟨9,[afk t any (.vec 1 false (texts.map encStr)) (.own (1008,v) 11 0 acc.length false) (.vec 12 true [])],false,true⟩),((1008,v),some ⟨11,acc.map dz,false,false⟩),((4,v4),some ⟨9,[M.z1],false,true⟩),((2,v2),some ⟨9,[cT t],false,true⟩)]⟩) J [] (by rw[hJ]; rfl) (by simp) fun v k acc _ hk hj=>?_
 have hw:=wrap64 (n:=(k:Int)+1) (by omega) (by omega)
 have hj' : acc=(t.arrays.take k).map fun a=>.mk (n a.item) a.min a.max:=by rw[hJ] at hj; exact hj
 have hal:acc.length=k:=by rw[hj']; simp; omega
 by_cases g:k<t.arrays.length
 ·have hst:=xQ (fun a:Arr=>Arr.mk (n a.item) a.min a.max) g
  rw[← hj'] at hst
  simp[g,hh]
  intros
  refine aH.ret (hA _ (List.getElem_mem g)) ?_
  simp[g,hw]
  exact⟨by omega,acc++[.mk (n t.arrays[k].item) t.arrays[k].min t.arrays[k].max],by rw[hJ]; exact hst.symm,fun _=>by simp; exact bf _ _⟩
 ·have e1:acc=az:=by rw[hj',List.take_of_length_le (by omega),hAs]
  simp[g]
  exact fun v0=>fin _ fun v=>by simp[e1]
set_option maxHeartbeats 4000000 in
theorem arn (h:Int) (t:Ty) (os:List Ob) (wf:Ob→Ob) (n:Ty→Ty) (h1 : -9223372036854775807≤h) (h2:h≤9223372036854775807) (e0:t.all=false) (e1:h<1→t.arrays=[]∧t.objects=[])
 (hf:aj (.mk false t.null t.fls t.tru t.nums (t.any||decide (16<t.texts.length)) (if 16<t.texts.length then [] else t.texts) (t.arrays.map fun a=>.mk (n a.item) a.min a.max) os)=true) (hl:t.objects.length≤34359738368) (ha:t.arrays.length≤1)
 (hA:∀ a∈t.arrays,Ret prog M.jq [.agg (cT a.item),.int .i64 (h-1)] (.agg (cT (n a.item))))
 (hW:∀ o∈t.objects,Ret prog M.su [.agg (cO o),.int .i64 (h-1)] (.agg (cO (wf o))))
 (hO:gU prog M.oU [.vec 12 false ((t.objects.map wf).map au),.int .i64 (h-1)] 12 (os.map au)) :
 Ret prog M.jq [.agg (cT t),.int .i64 h] (.agg (cT (ZH t (t.arrays.map fun a=>.mk (n a.item) a.min a.max) os))):=by
 refine Ret.go ah alc (by simp) fun hb w0 F0 hG=>?_
 have hh:=wrap64 (n:=h-1) (by omega) (by omega)
 have fin:=fun v2 v4 v5=>aK0 (w0:=w0) (F0:=F0) (hG:=hG) h t v2 v4 v5 _ _ os wf n hh hf hl ha hA hW hO
 have hR:ZH t (t.arrays.map fun a=>.mk (n a.item) a.min a.max) os=(if jV (.mk false t.null t.fls t.tru t.nums (t.any||decide (16<t.texts.length)) (if 16<t.texts.length then [] else t.texts) (t.arrays.map fun a=>.mk (n a.item) a.min a.max) os) laidAll then dx else Ty.mk false t.null t.fls t.tru t.nums (t.any||decide (16<t.texts.length)) (if 16<t.texts.length then [] else t.texts) (t.arrays.map fun a=>.mk (n a.item) a.min a.max) os):=rfl
 rw[← hR] at fin
 generalize ZH t (t.arrays.map fun a=>Arr.mk (n a.item) a.min a.max) os=R at *
 have key:∀ v2 v4 v5 (st:St),(∀ v,LS (nk [] v st) ⟨[(5,.ptr (5,v5) 9 0 0),(4,.ptr (4,v4) 9 0 0),(2,.ptr (2,v2) 9 0 0),(1,.int .i64 h)],[((5,v5),some ⟨9,[afk t t.any (.vec 1 false (t.texts.map encStr)) (.vec 11 true []) (.vec 12 true [])],false,true⟩),((4,v4),some ⟨9,[M.z1],false,true⟩),((2,v2),some ⟨9,[cT t],false,true⟩)]⟩) →
  bF ⟨prog,w0,F0,112,[],0,hG⟩ M.ahq st [.sq M.aaC] (yt M.Vk (.agg (cT R))):=fun v2 v4 v5 st hst=>by
  refine bF.anew [] rfl _ hst fun _ _=>?_
  refine bF.alD ah [] rfl (fun _=>⟨[(5,.ptr (5,v5) 9 0 0),(4,.ptr (4,v4) 9 0 0),(2,.ptr (2,v2) 9 0 0),(1,.int .i64 h)],[((5,v5),some ⟨9,[afk t (t.any||decide (16<t.texts.length)) (.vec 1 false ((if 16<t.texts.length then [] else t.texts).map encStr)) (.vec 11 true []) (.vec 12 true [])],false,true⟩),((4,v4),some ⟨9,[M.z1],false,true⟩),((2,v2),some ⟨9,[cT t],false,true⟩)]⟩) ?_ fun _ _=>by rw[amu]; exact fin v2 v4 v5
  by_cases h16:16<t.texts.length
  ·have h16' : (16:Int)<t.texts.length:=by omega
   simp[h16,h16']
  ·have h16' : ¬ (16:Int)<t.texts.length:=by omega
   simp[h16,h16']
 by_cases hz:h<1
 ·obtain⟨z1,z2⟩:=e1 hz
  simp[e0,hz,z1,z2]
  exact fun v2 v4 v5=>key v2 v4 v5 _ fun v=>by simp[z1,z2]
 ·simp[e0,hz]
  exact fun v2 v4 v5=>key v2 v4 v5 _ fun v=>by simp
end
end Go.Proofs.YtngjnfbngheccaaGreatDoor.Pv
set_option maxRecDepth 100000
namespace Go.Proofs.YtngjnfbngheccaaGreatDoor.Pv
open Go Go.Tidy
theorem am5 (h:Int) (N:Ty→Ty) (NM:List S) (l:List Ob) (hf:∀ o∈l,bg o=true) (hb4:∀ o∈l,bdO NM 4 o) (h3:NM.length≤1073741824) (hl:l.length≤4):gU prog M.oU [.vec 12 false (l.map au),.int .i64 h] 12 ((dN [] (iY l)).map au):=by
 have h4:(dN [] (iY l)).length≤4:=by
  have h1:=(JC (iY l) []).1
  have h2:=(uq l).2.1
  simp at h1; omega
 have e:nG N l=dN [] (iY l):=if_pos h4
 have:=aoJ h N NM 0 l hf hb4 h3 (by omega) (fun h=>absurd h (by omega)) (fun h=>absurd h (by omega))
 rw[e] at this
 exact this
theorem aHr (h:Int) (N:Ty→Ty) (NM:List S) (B:Nat) (hN:ae6 M.jq h N NM B) (hNf:∀ t,aj t=true→aj (N t)=true) (hNn:∀ t,aj t=true→never (N t)=never t) (hNb:∀ t m,bdT NM m t→bdT NM 4 (N t)) (h3:NM.length≤1073741824) (hM:4*(NM.length+1)≤B)
 (l:List Ob) (hf:∀ o∈l,bg o=true) (hb4:∀ o∈l,bdO NM 4 o) (hl:l.length≤4294967296) (hB:4*l.length≤B):gU prog M.oU [.vec 12 false (l.map au),.int .i64 h] 12 ((nG N l).map au):=by
 have hq:∀ x∈dN [] (iY l),x∈l:=fun x hx=>(zi _ _ x hx).elim (fun h=>by cases h) ((uq l).1 x)
 have hql:(dN [] (iY l)).length≤l.length:=by
  have h1:=(JC (iY l) []).1
  have h2:=(uq l).2.1
  simp at h1; omega
 have hd:∀ x∈(dN [] (iY l)).drop 3,x∈l:=fun x hx=>hq x (List.mem_of_mem_drop hx)
 refine aoJ h N NM B l hf hb4 h3 hl (fun h4=>?_) (fun h4=>?_)
 ·have hne:(dN [] (iY l)).drop 3≠[]:=fun e=>by have:=congrArg List.length e; simp at this; omega
  refine arX h N NM B _ hN hNf hNn hNb h3 hM _ (aej (fun o ho=>hf o (hd o ho)) hne) (ap0 fun o ho=>hb4 o (hd o ho)) ?_
  simp; omega
 ·have hne:(dN [] (iY l)).drop 3≠[]:=fun e=>by have:=congrArg List.length e; simp at this; omega
  refine am5 h N NM _ (fun o ho=>?_) (fun o ho=>?_) h3 (by simp; omega)
  ·rcases List.mem_append.1 ho with ho|ho
   ·exact hf o (hq o (List.mem_of_mem_take ho))
   ·rw[List.mem_singleton.1 ho]
    exact Dn hNf hNn (aej (fun o ho=>hf o (hd o ho)) hne)
  ·rcases List.mem_append.1 ho with ho|ho
   ·exact hb4 o (hq o (List.mem_of_mem_take ho))
   ·rw[List.mem_singleton.1 ho]
    exact YU hNb (ap0 fun o ho=>hb4 o (hd o ho))
theorem agK {t:Ty} (ht:aj t=true) {az:List Arr} {os:List Ob} (h1:az.length≤1) (h2:∀ a∈az,gu a=true) (h3:∀ o∈os,bg o=true):aj (.mk false t.null t.fls t.tru t.nums (t.any||decide (16<t.texts.length)) (if 16<t.texts.length then [] else t.texts) az os)=true:=by
 obtain⟨t1,t2,t3,t4,t5,t6,t7,t8⟩:=bN ht
 refine aad (by simp) ?_ (fun h=>?_) t4 t5 h1 h2 h3
 ·simp only[Ty.rz]
  split
  ·rfl
  ·exact t2
 ·simp only[Ty.any_mk,Ty.rz] at h ⊢
  split
  ·rfl
  ·rename_i hn
   exact t3 (by simpa[hn] using h)
def ajr (NM:List S) (h:Nat):Nat:=262144*4 ^ (8-h)
theorem aLA (NM:List S) {h:Nat} (hh:h<8):ajr NM h=4*ajr NM (h+1):=by
 unfold ajr
 have:8-h=(8-(h+1))+1:=by omega
 rw[this,Nat.pow_succ,← Nat.mul_assoc,Nat.mul_comm]
theorem aH3 (NM:List S) (h:Nat):262144≤ajr NM h:=Nat.le_mul_of_pos_right _ (Nat.pow_pos (by omega))
theorem aOH (NM:List S) (hn:NM.length≤262143) {h:Nat} (hh:1≤h):ajr NM h≤4294967296:=by
 unfold ajr
 have h1:4 ^ (8-h)≤4 ^ 7:=Nat.pow_le_pow_right (by omega) (by omega)
 calc 262144*4 ^ (8-h)≤262144*4 ^ 7:=Nat.mul_le_mul (by omega) h1
  _≤4294967296:=by decide
theorem ayC (NM:List S) (hn:NM.length≤262143):∀ h:Nat,h≤8→ae6 M.jq h (bG h) NM (ajr NM h):=by
 intro h
 induction h with
 | zero =>
   intro _ t m ht hb hm
   rw[DZ]
   split
   ·rename_i hc
    refine ahF _ t ?_
    simp only[Bool.or_eq_true,Bool.not_eq_true',List.isEmpty_eq_false_iff] at hc
    rcases hc with (hc|hc)|hc
    ·exact .inl hc
    ·exact .inr ⟨by simp,.inl hc⟩
    ·exact .inr ⟨by simp,.inr hc⟩
   ·rename_i hc
    simp only[Bool.or_eq_true,Bool.not_eq_true',not_or,Bool.not_eq_true,Bool.not_eq_false,List.isEmpty_iff,List.isEmpty_eq_false_iff,Decidable.not_not,ne_eq] at hc
    obtain⟨⟨e0,ea⟩,eo⟩:=hc
    have:=arn ((0:Nat):Int) t [] id id (by simp) (by simp) e0 (fun _=>⟨ea,eo⟩) (by rw[ea]; exact agK ht (by simp) (by simp) (by simp)) (by rw[eo]; simp) (by rw[ea]; simp) (by rw[ea]; simp) (by rw[eo]; simp) (by
     rw[eo]
     have:=am5 (((0:Nat):Int)-1) id NM [] (by simp) (by simp) (by omega) (by simp)
     simpa[iY,dN] using this)
    rw[ea] at this
    exact this
 | succ h ih =>
   intro h8 t m ht hb hm
   have ih':=ih (by omega)
   have hcs:=aLA NM (h:=h) (by omega)
   have hcg:4*(NM.length+1)≤ajr NM h:=by have:=aH3 NM (h+1); omega
   have hcl:=aOH NM hn (h:=h+1) (by omega)
   rw[vO]
   split
   ·rename_i hc
    exact ahF _ t (.inl hc)
   ·rename_i hc
    obtain⟨t1,t2,t3,t4,t5,t6,t7,t8⟩:=bN ht
    have hbi:=uz.1 hb
    have eh:(((h+1:Nat):Int)-1)=(h:Int):=by omega
    have hNn:∀ t,aj t=true→never (bG h t)=never t:=fun t ht=>aag h t ht
    have hW:∀ o∈t.objects,Ret prog M.su [.agg (cO o),.int .i64 h] (.agg (cO (gq (bG h) o))):=fun o ho =>
     arX h (bG h) NM (ajr NM h) m ih' (lu h) hNn (Jv h) (by omega) hcg o (t8 o ho) (hbi.2.2.2 o ho) (by omega)
    have hfm:∀ o∈t.objects.map (gq (bG h)),bg o=true:=fun o ho=>by
     obtain⟨x,hx,rfl⟩:=List.mem_map.1 ho
     exact Dn (lu h) hNn (t8 x hx)
    have hbm:∀ o∈t.objects.map (gq (bG h)),bdO NM 4 o:=fun o ho=>by
     obtain⟨x,hx,rfl⟩:=List.mem_map.1 ho
     exact YU (Jv h) (hbi.2.2.2 x hx)
    have hO:=aHr h (bG h) NM (ajr NM h) ih' (lu h) hNn (Jv h) (by omega) hcg (t.objects.map (gq (bG h))) hfm hbm (by simp; omega) (by simp; omega)
    refine arn ((h+1:Nat):Int) t _ (gq (bG h)) (bG h) (by omega) (by omega) (by simpa using hc) (fun h1=>by omega) ?_ (by omega) t6 (fun a ha=>?_) (fun o ho=>?_) ?_
    ·refine agK ht (by simpa using t6) (fun a ha=>?_) (aa8 (lu h) hNn hfm)
     obtain⟨x,hx,rfl⟩:=List.mem_map.1 ha
     obtain⟨x1,x2,x3,x4,x5⟩:=gY (t7 x hx)
     exact aai x1 x2 x3 (lu h _ x4) (by rw[Arr.Ze,hNn _ x4]; exact x5)
    ·rw[eh]
     exact ih' a.item m (gY (t7 a ha)).2.2.2.1 (hbi.2.2.1 a ha) (by omega)
    ·rw[eh]; exact hW o ho
    ·rw[eh]; exact hO
end Go.Proofs.YtngjnfbngheccaaGreatDoor.Pv
set_option maxRecDepth 100000
namespace Go.Proofs.YtngjnfbngheccaaGreatDoor.Pv
open Go Go.Tidy
theorem ao7:∀ {l:List Arr} {k:Nat} (hk:k<l.length),lQ (l.take (k+1))=lQ (l.take k)+iw l[k].item
 | .mk t _ _::l,0,_=>by simp[lQ]
 | .mk t _ _::l,k+1,h=>by
   have:=ao7 (l:=l) (k:=k) (by simpa using h)
   simp only[List.take_succ_cons,lQ,List.getElem_cons_succ]
   rw[this]; omega
theorem aoP:∀ {l:List Ty} {k:Nat} (hk:k<l.length),mq (l.take (k+1))=mq (l.take k)+iw l[k]
 | t::l,0,_=>by simp[mq]
 | t::l,k+1,h=>by
   have:=aoP (l:=l) (k:=k) (by simpa using h)
   simp only[List.take_succ_cons,mq,List.getElem_cons_succ]
   rw[this]; omega
theorem aoU:∀ {l:List Ob} {k:Nat} (hk:k<l.length),oQ (l.take (k+1))=oQ (l.take k)+(iw l[k].rest+mq l[k].fields)
 | .mk _ fs _ r::l,0,_=>by simp[oQ]
 | .mk _ fs _ r::l,k+1,h=>by
   have:=aoU (l:=l) (k:=k) (by simpa using h)
   simp only[List.take_succ_cons,oQ,List.getElem_cons_succ]
   rw[this]; omega
theorem aly (t:Ty):iw t=1+(lQ t.arrays+oQ t.objects):=by cases t; rfl
theorem aJM (l:List Arr) (k:Nat):lQ (l.take k)≤lQ l:=by
 induction l generalizing k with
 | nil=>simp
 | cons a l ih =>
   obtain⟨t,_,_⟩:=a
   cases k with
   | zero=>simp[lQ]
   | succ k=>have:=ih k; simp only[List.take_succ_cons,lQ]; omega
theorem aJx (l:List Ty) (k:Nat):mq (l.take k)≤mq l:=by
 induction l generalizing k with
 | nil=>simp
 | cons a l ih =>
   cases k with
   | zero=>simp[mq]
   | succ k=>have:=ih k; simp only[List.take_succ_cons,mq]; omega
set_option maxHeartbeats 4000000 in
theorem aJA (t:Ty) (m:Nat) (hm:m≤1000000) (hA:∀ a∈t.arrays,∀ k,k<m→Ret prog M.rZ [.agg (cT a.item),.int .i64 (k:Nat)] (.int .i64 (min (iw a.item) (k+1):Nat)))
 (hR:∀ o∈t.objects,∀ k,k<m→Ret prog M.rZ [.agg (cT o.rest),.int .i64 (k:Nat)] (.int .i64 (min (iw o.rest) (k+1):Nat)))
 (hF:∀ o∈t.objects,∀ f∈o.fields,∀ k,k<m→Ret prog M.rZ [.agg (cT f),.int .i64 (k:Nat)] (.int .i64 (min (iw f) (k+1):Nat))) :
 Ret prog M.rZ [.agg (cT t),.int .i64 (m:Nat)] (.int .i64 (min (iw t) (m+1):Nat)):=by
 refine Ret.go ah aCr (by simp) fun hb w0 F0 hG=>?_
 simp only[ig,jh,List.length_map,LIM,and_true] at hb
 have hd:=aly t
 generalize iw t=H at *
 simp
 intro v
 have key:∀ (n0:Nat) (st:St),n0=min (1+lQ t.arrays) (m+1)→LS st ⟨[(7,.int .i64 0),(5,.int .i64 (n0:Nat)),(2,.ptr (2,v) 9 0 0),(1,.int .i64 m)],[((2,v),some ⟨9,[cT t],false,true⟩)]⟩ →
  aU ⟨prog,w0,F0,87,[],0,hG⟩ (.loop M.ajh) st [.bk 2,.sq M.aiQ] (yt M.akt (.int .i64 (min H (m+1):Nat))):=fun n0 st hn0 hst=>by
  obtain⟨J,hJ⟩ : ∃ J:Nat→Nat→Prop,J=fun k n=>n=min (1+lQ t.arrays+oQ (t.objects.take k)) (m+1):=⟨_,rfl⟩
  refine aU.cnt ah t.objects.length (fun k n=>⟨[(7,.int .i64 k),(5,.int .i64 (n:Nat)),(2,.ptr (2,v) 9 0 0),(1,.int .i64 m)],[((2,v),some ⟨9,[cT t],false,true⟩)]⟩) J n0 (by rw[hJ]; simp[oQ,hn0]) (by simpa using hst) fun k n hk hj=>?_
  have hw:=wrap64 (n:=(k:Int)+1) (by omega) (by omega)
  have hj' : n=min (1+lQ t.arrays+oQ (t.objects.take k)) (m+1):=by rw[hJ] at hj; exact hj
  by_cases h1:k<t.objects.length
  ·have hto:=aoU h1
   have hof:t.objects[k].fields.length≤140737488355328:=by
    have:=atu hb.1.2.2.2.2.2.2.2.2.2 t.objects[k] (List.getElem_mem h1)
    simp only[CU,ig,jh,List.length_map,LIM,and_true] at this
    omega
   simp[h1]
   obtain⟨n1,hn1⟩ : ∃ n1,n1=min (1+lQ t.arrays+oQ (t.objects.take k)+iw t.objects[k].rest) (m+1):=⟨_,rfl⟩
   refine bF.one ah ⟨[(7,.int .i64 k),(5,.int .i64 (n1:Nat)),(2,.ptr (2,v) 9 0 0),(1,.int .i64 m)],[((2,v),some ⟨9,[cT t],false,true⟩)]⟩ ?_ ?_
   ·by_cases h2:n≤m
    ·have w1:=wrap64 (n:=(m:Int)-n) (by omega) (by omega)
     have e1:(m:Int)-n=((m-n:Nat):Int):=by omega
     rw[e1] at w1
     have ih:=hR _ (List.getElem_mem h1) (m-n) (by omega)
     obtain⟨q,hq⟩ : ∃ q,q=min (iw t.objects[k].rest) (m-n+1):=⟨_,rfl⟩
     rw[← hq] at ih
     have w2:=wrap64 (n:=(n:Int)+q) (by omega) (by omega)
     simp[h1,h2,e1,w1]
     refine ak.ret ih ?_
     simp[w2]
     omega
    ·simp[h2]
     omega
   ·simp
    obtain⟨J',hJ'⟩ : ∃ J:Nat→Nat→Prop,J=fun i n=>n=min (1+lQ t.arrays+oQ (t.objects.take k)+iw t.objects[k].rest+mq (t.objects[k].fields.take i)) (m+1):=⟨_,rfl⟩
    refine aU.cnt ah t.objects[k].fields.length (fun i n=>⟨[(8,.int .i64 i),(7,.int .i64 k),(5,.int .i64 (n:Nat)),(2,.ptr (2,v) 9 0 0),(1,.int .i64 m)],[((2,v),some ⟨9,[cT t],false,true⟩)]⟩) J' n1 (by rw[hJ']; simp[mq,hn1]) (by simp) fun i n hi hj2=>?_
    have hw2:=wrap64 (n:=(i:Int)+1) (by omega) (by omega)
    have hj3:n=min (1+lQ t.arrays+oQ (t.objects.take k)+iw t.objects[k].rest+mq (t.objects[k].fields.take i)) (m+1):=by rw[hJ'] at hj2; exact hj2
    have hle:=aJx t.objects[k].fields i
    by_cases h3:i<t.objects[k].fields.length
    ·by_cases h2:n≤m
     ·have w1:=wrap64 (n:=(m:Int)-n) (by omega) (by omega)
      have e1:(m:Int)-n=((m-n:Nat):Int):=by omega
      rw[e1] at w1
      have ih:=hF _ (List.getElem_mem h1) _ (List.getElem_mem h3) (m-n) (by omega)
      obtain⟨q,hq⟩ : ∃ q,q=min (iw t.objects[k].fields[i]) (m-n+1):=⟨_,rfl⟩
      rw[← hq] at ih
      have w2:=wrap64 (n:=(n:Int)+q) (by omega) (by omega)
      have hto:=aoP h3
      simp[h1,h2,h3,e1,w1]
      refine ak.ret ih ?_
      simp[w2,hw2,h3]
      exact⟨n+q,by rw[hJ']; show _=_; omega,by simp⟩
     ·simp[h1,h2,h3,hw]
      exact⟨n,by rw[hJ]; show _=_; omega,rfl⟩
    ·have e0:t.objects[k].fields.take i=t.objects[k].fields:=List.take_of_length_le (by omega)
     rw[e0] at hj3
     simp[h1,h3,hw]
     exact⟨n,by rw[hJ]; show _=_; omega,rfl⟩
  ·have e0:t.objects.take k=t.objects:=List.take_of_length_le (by omega)
   rw[e0] at hj'
   simp[h1]
   omega
 obtain⟨J,hJ⟩ : ∃ J:Nat→Nat→Prop,J=fun k n=>n=min (1+lQ (t.arrays.take k)) (m+1):=⟨_,rfl⟩
 refine aU.cnt ah t.arrays.length (fun k n=>⟨[(6,.int .i64 k),(5,.int .i64 (n:Nat)),(2,.ptr (2,v) 9 0 0),(1,.int .i64 m)],[((2,v),some ⟨9,[cT t],false,true⟩)]⟩) J 1 (by rw[hJ]; simp[lQ]) (by simp) fun k n hk hj=>?_
 have hw:=wrap64 (n:=(k:Int)+1) (by omega) (by omega)
 have hj' : n=min (1+lQ (t.arrays.take k)) (m+1):=by rw[hJ] at hj; exact hj
 have hle:=aJM t.arrays k
 by_cases h1:k<t.arrays.length
 ·by_cases h2:n≤m
  ·have w1:=wrap64 (n:=(m:Int)-n) (by omega) (by omega)
   have e1:(m:Int)-n=((m-n:Nat):Int):=by omega
   rw[e1] at w1
   have ih:=hA _ (List.getElem_mem h1) (m-n) (by omega)
   obtain⟨q,hq⟩ : ∃ q,q=min (iw t.arrays[k].item) (m-n+1):=⟨_,rfl⟩
   rw[← hq] at ih
   have w2:=wrap64 (n:=(n:Int)+q) (by omega) (by omega)
   have hto:=ao7 h1
   simp[h1,h2,e1,w1]
   refine ak.ret ih ?_
   simp[w2,hw,h1]
   exact⟨n+q,by rw[hJ]; show _=_; omega,by simp⟩
  ·simp[h1,h2]
   exact key n _ (by omega) (by simp)
 ·have e0:t.arrays.take k=t.arrays:=List.take_of_length_le (by omega)
  rw[e0] at hj'
  simp[h1]
  exact key n _ hj' (by simp)
theorem aAV (t:Ty):∀ m:Nat,m≤1000000→Ret prog M.rZ [.agg (cT t),.int .i64 (m:Nat)] (.int .i64 (min (iw t) (m+1):Nat)):=by
 induction hn:SizeOf.sizeOf t using Nat.strongRecOn generalizing t with
 | _ n ih =>
   subst hn
   intro m hm
   exact aJA t m hm (fun a ha k hk=>ih _ (Y8 ha) a.item rfl k (by omega)) (fun o ho k hk=>ih _ (OG ho) o.rest rfl k (by omega)) (fun o ho f hf k hk=>ih _ (QB ho hf) f rfl k (by omega))
set_option maxHeartbeats 4000000 in
theorem aFq (NM:List S) (hn:NM.length≤262143) (t:Ty) (ht:aj t=true) (m:Nat) (hb4:bdT NM m t) (hm:m≤262144):Ret prog M.ahc [.agg (cT t)] (.agg (cT (l9 t))):=by
 refine Ret.go ah aEb (by simp) fun hb w0 F0 hG=>?_
 have cN:∀ h:Nat,h≤8→Ret prog M.jq [.agg (cT t),.int .i64 (h:Nat)] (.agg (cT (bG h t))):=fun h hh=>ayC NM hn h hh t m ht hb4 (Nat.le_trans hm (aH3 NM h))
 generalize hR:l9 t=R
 simp
 intro v1 v2
 refine ak.ret (cN 0 (by omega)) ?_
 simp
 intro v3
 obtain⟨J,hJ⟩ : ∃ J:Nat→Ty→Prop,J=fun k b=>b=bG k t∧R=wO t (8-k) (k+1) b:=⟨_,rfl⟩
 refine aU.cnt ah 8 (fun k b=>⟨[(4,.int .i64 (k+1:Nat)),(3,.ptr (3,v3) 9 0 0),(2,.ptr (2,v2) 9 0 0),(1,.ptr (1,v1) 9 0 0)],[((3,v3),some ⟨9,[cT b],false,true⟩),((2,v2),some ⟨9,[M.z1],false,true⟩),((1,v1),some ⟨9,[cT t],false,true⟩)]⟩) J (bG 0 t) (by rw[hJ]; exact⟨rfl,hR.symm⟩) (by simp) fun k b hk hj=>?_
 obtain⟨j1,j2⟩ : b=bG k t∧R=wO t (8-k) (k+1) b:=by rw[hJ] at hj; exact hj
 obtain⟨i,hi⟩ : ∃ i,i=k+1:=⟨_,rfl⟩
 have hw:=wrap64 (n:=(i:Int)+1) (by omega) (by omega)
 show XC _ _ ⟨[(4,.int .i64 (k+1:Nat)),(3,.ptr (3,v3) 9 0 0),(2,.ptr (2,v2) 9 0 0),(1,.ptr (1,v1) 9 0 0)],[((3,v3),some ⟨9,[cT b],false,true⟩),((2,v2),some ⟨9,[M.z1],false,true⟩),((1,v1),some ⟨9,[cT t],false,true⟩)]⟩ _ _
 rw[← hi]
 by_cases h1:k<8
 ·have g1:(i:Int)≤8:=by omega
  have e8:8-k=(8-(k+1))+1:=by omega
  rw[e8,Jd,← hi] at j2
  simp[g1]
  refine ak.ret (cN i (by omega)) ?_
  have cP:=aAV (bG i t) 200 (by omega)
  generalize hN:bG i t=N at *
  simp
  intro v5
  refine ak.ret cP ?_
  by_cases h2:iw N≤200
  ·rw[if_pos h2] at j2
   have h2' : ¬ (200:Int)<(min (iw N) 201:Nat):=by omega
   simp[h2',hw]
   exact⟨h1,N,by rw[hJ,← hi]; exact⟨hN.symm,j2⟩,by simp; omega⟩
  ·rw[if_neg h2] at j2
   have h2' : (200:Int)<(min (iw N) 201:Nat):=by omega
   simp[h2',j2]
 ·have g1:¬ (i:Int)≤8:=by omega
  have:R=b:=by rw[j2,show 8-k=0 by omega]; rfl
  simp[g1,this]
def aQJ (NM:List S) (t:Ty):Prop:=NM.length≤262143∧∃ m,bdT NM m t∧m≤262144
theorem aFy (NM:List S) (t:Ty) (hN:aQJ NM t):Ret prog M.ah3 [.agg (cT t)] (.tup [.agg (cT (if aj t then l9 t else aV)),.int .i64 (if aj t then 0 else 1)]):=by
 obtain⟨hn,m,hb4,hm⟩:=hN
 refine Ret.go ah aFG (by simp) fun hb w0 F0 hG=>?_
 simp
 intros
 refine ak.ret (ak2 t) ?_
 cases hf:aj t
 ·simp[aV]
 ·simp
  refine ak.ret (aFq NM hn t hf m hb4 hm) ?_
  simp
theorem aGI {t:Ty} (ht:aj t=true):aj (l9 t)=true:=by
 obtain⟨k,_,e⟩:=atA t
 rw[e]; exact lu k t ht
end Go.Proofs.YtngjnfbngheccaaGreatDoor.Pv
set_option maxRecDepth 100000
namespace Go.Proofs.YtngjnfbngheccaaGreatDoor.Pv
open Go Go.Tidy
end Go.Proofs.YtngjnfbngheccaaGreatDoor.Pv
namespace Go.Proofs.YtngjnfbngheccaaGreatDoor
open Go Go.RowKit Go.Maps Go.Sort Go.Shelf
def Tryz.azY:Go.Shelf.Ren:=⟨fun|7=>185|10=>219|n=>n,fun|23=>175|26=>9|3=>3|28=>178|0=>0|27=>177|33=>57|4=>4|n=>n,fun|n=>n⟩
theorem Tryz.aNO:Go.Proofs.SlLaysZ.n7 Tryz.prog Tryz.azY:={
 mixed:=by kernel_rfl
 f7:=⟨Tryz.f185.name,by decide,Tryz.func185.trans (congrArg some (by kernel_rfl))⟩
 f10:=⟨Tryz.f219.name,by decide,Tryz.func219.trans (congrArg some (by kernel_rfl))⟩
 t0:=Tryz.underlying0
 a0:=Tryz.isAgg0
 z0:=Tryz.sizeOf0
 v0:=Tryz.zeroValue0
 t4:=Tryz.underlying4
 a4:=Tryz.isAgg4
 z4:=Tryz.sizeOf4
 v4:=Tryz.zeroValue4
 t23:=Tryz.underlying175
 a23:=Tryz.isAgg175
 z23:=Tryz.sizeOf175
 v23:=Tryz.zeroValue175
 t26:=Tryz.underlying9
 a26:=Tryz.isAgg9
 z26:=Tryz.sizeOf9
 v26:=Tryz.zeroValue9
 t27:=Tryz.underlying177
 a27:=Tryz.isAgg177
 z27:=Tryz.sizeOf177
 v27:=Tryz.zeroValue177
 t28:=Tryz.underlying178
 a28:=Tryz.isAgg178
 z28:=Tryz.sizeOf178
 v28:=Tryz.zeroValue178
 t33:=Tryz.underlying57
 a33:=Tryz.isAgg57
 z33:=Tryz.sizeOf57
 v33:=Tryz.zeroValue57 }
def Tryz.arS:Go.Shelf.Ren:=⟨fun|6=>184|8=>218|9=>123|11=>232|13=>172|12=>171|23=>209|24=>210|14=>201|15=>202|16=>203|17=>204|18=>205|19=>206|20=>151|21=>207|22=>208|25=>223|26=>224|27=>225|28=>226|29=>227|30=>187|31=>234|n=>n,fun|26=>9|28=>178|24=>23|0=>0|3=>3|37=>140|48=>194|50=>169|4=>4|40=>188|39=>187|45=>116|5=>5|9=>9|51=>200|55=>204|57=>210|58=>211|33=>57|n=>n,fun|n=>n⟩
theorem Tryz.aN7:Go.Proofs.SlLaysZ.n6 Tryz.prog Tryz.arS:={
 mixed:=by kernel_rfl
 f6:=⟨Tryz.f184.name,by decide,Tryz.func184.trans (congrArg some (by kernel_rfl))⟩
 f8:=⟨Tryz.f218.name,by decide,Tryz.func218.trans (congrArg some (by kernel_rfl))⟩
 f11:=⟨Tryz.f232.name,by decide,Tryz.func232.trans (congrArg some (by kernel_rfl))⟩
 t0:=Tryz.underlying0
 a0:=Tryz.isAgg0
 z0:=Tryz.sizeOf0
 v0:=Tryz.zeroValue0
 t24:=Tryz.underlying23
 a24:=Tryz.isAgg23
 z24:=Tryz.sizeOf23
 v24:=Tryz.zeroValue23
 t26:=Tryz.underlying9
 a26:=Tryz.isAgg9
 z26:=Tryz.sizeOf9
 v26:=Tryz.zeroValue9
 t28:=Tryz.underlying178
 a28:=Tryz.isAgg178
 z28:=Tryz.sizeOf178
 v28:=Tryz.zeroValue178
 i26:=by kernel_rfl }
def Tryz.aL1:Go.Shelf.Ren:=⟨fun|6=>123|8=>172|9=>171|19=>209|20=>210|21=>201|22=>202|23=>203|24=>204|25=>205|26=>206|27=>151|28=>207|29=>208|36=>223|31=>224|32=>225|37=>226|38=>227|39=>187|41=>234|n=>n,fun|27=>23|29=>9|3=>3|32=>140|26=>23|0=>0|44=>194|46=>169|4=>4|36=>188|35=>187|41=>116|5=>5|9=>9|53=>200|57=>204|63=>210|64=>211|n=>n,fun|n=>n⟩
theorem Tryz.aDb:Go.Proofs.SlLaysM.n6 Tryz.prog Tryz.aL1:={
 mixed:=by kernel_rfl
 f6:=⟨Tryz.f123.name,by decide,Tryz.func123.trans (congrArg some (by kernel_rfl))⟩
 f8:=Tryz.func172.trans (congrArg some (by kernel_rfl))
 f9:=⟨Tryz.f171.name,by decide,Tryz.func171.trans (congrArg some (by kernel_rfl))⟩
 f19:=Tryz.func209.trans (congrArg some (by kernel_rfl))
 f20:=Tryz.func210.trans (congrArg some (by kernel_rfl))
 f21:=⟨Tryz.f201.name,by decide,Tryz.func201.trans (congrArg some (by kernel_rfl))⟩
 f22:=⟨Tryz.f202.name,by decide,Tryz.func202.trans (congrArg some (by kernel_rfl))⟩
 f23:=⟨Tryz.f203.name,by decide,Tryz.func203.trans (congrArg some (by kernel_rfl))⟩
 f24:=⟨Tryz.f204.name,by decide,Tryz.func204.trans (congrArg some (by kernel_rfl))⟩
 f25:=⟨Tryz.f205.name,by decide,Tryz.func205.trans (congrArg some (by kernel_rfl))⟩
 f26:=⟨Tryz.f206.name,by decide,Tryz.func206.trans (congrArg some (by kernel_rfl))⟩
 f27:=⟨Tryz.f151.name,by decide,Tryz.func151.trans (congrArg some (by kernel_rfl))⟩
 f28:=⟨Tryz.f207.name,by decide,Tryz.func207.trans (congrArg some (by kernel_rfl))⟩
 f29:=⟨Tryz.f208.name,by decide,Tryz.func208.trans (congrArg some (by kernel_rfl))⟩
 f31:=Tryz.func224.trans (congrArg some (by kernel_rfl))
 f32:=Tryz.func225.trans (congrArg some (by kernel_rfl))
 f36:=⟨Tryz.f223.name,by decide,Tryz.func223.trans (congrArg some (by kernel_rfl))⟩
 f37:=⟨Tryz.f226.name,by decide,Tryz.func226.trans (congrArg some (by kernel_rfl))⟩
 f38:=⟨Tryz.f227.name,by decide,Tryz.func227.trans (congrArg some (by kernel_rfl))⟩
 f39:=⟨Tryz.f187.name,by decide,Tryz.func187.trans (congrArg some (by kernel_rfl))⟩
 f41:=⟨Tryz.f234.name,by decide,Tryz.func234.trans (congrArg some (by kernel_rfl))⟩
 t0:=Tryz.underlying0
 a0:=Tryz.isAgg0
 z0:=Tryz.sizeOf0
 v0:=Tryz.zeroValue0
 t3:=Tryz.underlying3
 a3:=Tryz.isAgg3
 z3:=Tryz.sizeOf3
 v3:=Tryz.zeroValue3
 t4:=Tryz.underlying4
 a4:=Tryz.isAgg4
 z4:=Tryz.sizeOf4
 v4:=Tryz.zeroValue4
 t5:=Tryz.underlying5
 a5:=Tryz.isAgg5
 z5:=Tryz.sizeOf5
 v5:=Tryz.zeroValue5
 t9:=Tryz.underlying9
 a9:=Tryz.isAgg9
 z9:=Tryz.sizeOf9
 v9:=Tryz.zeroValue9
 t26:=Tryz.underlying23
 a26:=Tryz.isAgg23
 z26:=Tryz.sizeOf23
 v26:=Tryz.zeroValue23
 t27:=Tryz.underlying23
 a27:=Tryz.isAgg23
 z27:=Tryz.sizeOf23
 v27:=Tryz.zeroValue23
 t29:=Tryz.underlying9
 a29:=Tryz.isAgg9
 z29:=Tryz.sizeOf9
 v29:=Tryz.zeroValue9
 t32:=Tryz.underlying140
 a32:=Tryz.isAgg140
 z32:=Tryz.sizeOf140
 v32:=Tryz.zeroValue140
 t35:=Tryz.underlying187
 a35:=Tryz.isAgg187
 z35:=Tryz.sizeOf187
 v35:=Tryz.zeroValue187
 t36:=Tryz.underlying188
 a36:=Tryz.isAgg188
 z36:=Tryz.sizeOf188
 v36:=Tryz.zeroValue188
 t41:=Tryz.underlying116
 a41:=Tryz.isAgg116
 z41:=Tryz.sizeOf116
 v41:=Tryz.zeroValue116
 t44:=Tryz.underlying194
 a44:=Tryz.isAgg194
 z44:=Tryz.sizeOf194
 v44:=Tryz.zeroValue194
 t46:=Tryz.underlying169
 a46:=Tryz.isAgg169
 z46:=Tryz.sizeOf169
 v46:=Tryz.zeroValue169
 t53:=Tryz.underlying200
 a53:=Tryz.isAgg200
 z53:=Tryz.sizeOf200
 v53:=Tryz.zeroValue200
 t57:=Tryz.underlying204
 a57:=Tryz.isAgg204
 z57:=Tryz.sizeOf204
 v57:=Tryz.zeroValue204
 t63:=Tryz.underlying210
 a63:=Tryz.isAgg210
 z63:=Tryz.sizeOf210
 v63:=Tryz.zeroValue210
 t64:=Tryz.underlying211
 a64:=Tryz.isAgg211
 z64:=Tryz.sizeOf211
 v64:=Tryz.zeroValue211 }
def Tryz.aF4:Go.Shelf.Ren:=⟨fun|44=>124|n=>n,fun|25=>23|26=>9|3=>3|4=>4|0=>0|n=>n,fun|n=>n⟩
theorem Tryz.aFZ:Go.Proofs.SlLaysN.n44 Tryz.prog Tryz.aF4:={
 mixed:=by kernel_rfl
 f44:=⟨Tryz.f124.name,by decide,Tryz.func124.trans (congrArg some (by kernel_rfl))⟩
 t0:=Tryz.underlying0
 a0:=Tryz.isAgg0
 z0:=Tryz.sizeOf0
 v0:=Tryz.zeroValue0
 t3:=Tryz.underlying3
 a3:=Tryz.isAgg3
 z3:=Tryz.sizeOf3
 v3:=Tryz.zeroValue3
 t4:=Tryz.underlying4
 a4:=Tryz.isAgg4
 z4:=Tryz.sizeOf4
 v4:=Tryz.zeroValue4
 t25:=Tryz.underlying23
 a25:=Tryz.isAgg23
 z25:=Tryz.sizeOf23
 v25:=Tryz.zeroValue23
 t26:=Tryz.underlying9
 a26:=Tryz.isAgg9
 z26:=Tryz.sizeOf9
 v26:=Tryz.zeroValue9
 i26:=by kernel_rfl }
def Tryz.ow:Go.Shelf.Ren:=⟨fun|196=>94|259=>135|n=>n,fun|9=>9|4=>4|3=>3|5=>5|12=>12|119=>136|0=>0|46=>140|139=>139|138=>138|53=>169|n=>n,fun|3=>0|4=>1|n=>n⟩
theorem Tryz.azP:Go.Proofs.Lays.n196 Tryz.prog Tryz.ow:={
 mixed:=by kernel_rfl
 f196:=Tryz.func94.trans (congrArg some (by kernel_rfl))
 f259:=Tryz.func135.trans (congrArg some (by kernel_rfl))
 t0:=Tryz.underlying0
 a0:=Tryz.isAgg0
 z0:=Tryz.sizeOf0
 v0:=Tryz.zeroValue0
 t3:=Tryz.underlying3
 a3:=Tryz.isAgg3
 z3:=Tryz.sizeOf3
 v3:=Tryz.zeroValue3
 t4:=Tryz.underlying4
 a4:=Tryz.isAgg4
 z4:=Tryz.sizeOf4
 v4:=Tryz.zeroValue4
 t5:=Tryz.underlying5
 a5:=Tryz.isAgg5
 z5:=Tryz.sizeOf5
 v5:=Tryz.zeroValue5
 t9:=Tryz.underlying9
 a9:=Tryz.isAgg9
 z9:=Tryz.sizeOf9
 v9:=Tryz.zeroValue9
 t12:=Tryz.underlying12
 a12:=Tryz.isAgg12
 z12:=Tryz.sizeOf12
 v12:=Tryz.zeroValue12
 t46:=Tryz.underlying140
 a46:=Tryz.isAgg140
 z46:=Tryz.sizeOf140
 v46:=Tryz.zeroValue140
 t53:=Tryz.underlying169
 a53:=Tryz.isAgg169
 z53:=Tryz.sizeOf169
 v53:=Tryz.zeroValue169
 t119:=Tryz.underlying136
 a119:=Tryz.isAgg136
 z119:=Tryz.sizeOf136
 t138:=Tryz.underlying138
 a138:=Tryz.isAgg138
 z138:=Tryz.sizeOf138
 v138:=Tryz.zeroValue138
 t139:=Tryz.underlying139
 a139:=Tryz.isAgg139
 z139:=Tryz.sizeOf139
 v139:=Tryz.zeroValue139
 g3:=by kernel_rfl
 g4:=by kernel_rfl }
end Go.Proofs.YtngjnfbngheccaaGreatDoor
namespace Go.Proofs.YtngjnfbngheccaaGreatDoor.Pv
open Go Go.Tidy
theorem aDI:∀ c:Fin 256,utf8First[c.1]? = some (Lib.firstT c.1):=by decide +kernel
theorem aiC:∀ i:Fin 16,JK[2*i.1]? = some (Lib.accLo i.1)∧JK[2*i.1+1]? = some (Lib.accHi i.1):=by decide +kernel
theorem aOD {w:World} {F:Nat→Prop} (hG:GOk prog w F):Lib.Utf8Tabs (Tryz.ow.g 3) (Tryz.ow.g 4) w:=by
 have h3:asx prog (Tryz.ow.g 3)=some utf8First:=by kernel_rfl
 have h4:asx prog (Tryz.ow.g 4)=some JK:=by kernel_rfl
 exact⟨fun c hc=>((hG _ _ h3).2.2 c _ (aDI ⟨c,hc⟩)).1,fun i hi=>⟨((hG _ _ h4).2.2 _ _ (aiC ⟨i,hi⟩).1).1,((hG _ _ h4).2.2 _ _ (aiC ⟨i,hi⟩).2).1⟩⟩
theorem apj (s:S):Ret prog M.uY [.str s] (.bool (Xu s)):=by
 refine⟨by kernel_rfl,fun w F vs hG hF hr=>?_⟩
 obtain⟨v,us,rfl,hv,hus⟩:=hr
 obtain rfl:us=[]:=hus
 obtain⟨rfl,hs⟩:=hv
 have h:Calls prog M.uY #[.string s] w _:=Any.utf8_ValidString Tryz.azP s w (by unfold LIM at hs; omega) (aOD hG)
 refine Calls.mono h ?_
 rintro e w' ⟨rfl,hb⟩
 exact⟨_,F,rfl,Bel.of hb,fun _ h=>h,fun b hb'=>⟨Nat.lt_of_lt_of_le (hF b hb') hb.size,.inl hb'⟩,by rw[aGW]; rfl⟩
end Go.Proofs.YtngjnfbngheccaaGreatDoor.Pv
set_option maxRecDepth 100000
namespace Go.Proofs.YtngjnfbngheccaaGreatDoor.Pv
open Go Go.Tidy
theorem aHG (s:S):Ret prog M.Uj [.str s] (.bool (Xu s)):=by
 refine Ret.go ah ar7 (by simp) fun hb w0 F0 hG=>?_
 simp
 refine ak.ret (apj s) ?_
 simp
theorem xU:Ret prog M.ou [] (.agg (cT dx)):=by
 refine Ret.go ah anl (by simp) fun hb w0 F0 hG=>?_
 simp[dx]
theorem aFK {l:List S} {k:Nat} (hk:k<l.length) (h:¬ (Xu l[k]=true∧∀ h:0<k,sLt (l[k-1]'(by omega)) l[k]=true)):iQ l=false:=by
 cases hr:iQ l
 ·rfl
 ·exact absurd (asX hk hr) h
set_option maxHeartbeats 4000000 in
theorem aoF (l:List S):Ret prog M.Mq [.vec 1 false (l.map encStr)] (.bool (iQ l)):=by
 refine Ret.go ah aoR (by simp) fun hb w0 F0 hG=>?_
 simp only[ig,jh,List.length_map,LIM,and_true] at hb
 generalize hB:iQ l=B
 simp
 obtain⟨J,hJ⟩ : ∃ J:Nat→Unit→Prop,J=fun k _=>ahw l k:=⟨_,rfl⟩
 refine aU.cnt ah l.length (fun k _=>⟨[(7,.int .i64 k),(6,.int .i64 l.length),(5,.vec 1 false (l.map encStr)),(0,.vec 1 false (l.map encStr))],[]⟩) J () (by rw[hJ]; exact fun j _ h=>absurd h (by omega)) (by simp) fun k _ hk hj=>?_
 have hw:=wrap64 (n:=(k:Int)+1) (by omega) (by omega)
 have hj' : ahw l k:=by rw[hJ] at hj; exact hj
 by_cases g:k<l.length
 ·simp[g]
  refine ak.ret (aHG l[k]) ?_
  cases e1:Xu l[k]
  ·have:B=false:=by rw[← hB]; exact aFK g (fun h=>by rw[e1] at h; cases h.1)
   simp[this]
  ·by_cases g0:0<k
   ·have g0' : (0:Int)<k:=by omega
    have wm:=wrap64 (n:=(k:Int)-1) (by omega) (by omega)
    have em:(k:Int)-1=((k-1:Nat):Int):=by omega
    have g1:k-1<l.length:=by omega
    rw[em] at wm
    cases e2:sLt l[k-1] l[k]
    ·have:B=false:=by rw[← hB]; exact aFK g (fun h=>by have:=h.2 g0; rw[e2] at this; cases this)
     simp[g0',g0,g,g1,wm,em,e2,this]
    ·simp[g0',g0,g,g1,wm,em,e2,hw]
     exact⟨(),by rw[hJ]; exact hj'.step g e1 fun _=>e2⟩
   ·have g0' : ¬ (0:Int)<k:=by omega
    simp[g0',g0,g,hw]
    exact⟨(),by rw[hJ]; exact hj'.step g e1 fun h=>absurd h g0⟩
 ·have:B=true:=by rw[← hB]; exact aDZ fun i hi=>hj' i hi (by omega)
  simp[g,this]
theorem akZ {α:Type} (l:List α) [Decidable (l=[])]:decide (l=[])=l.isEmpty:=by cases l<;>simp
theorem aen (t:Ty):Ret prog M.uW [.agg (cT t)] (.bool (bare t)):=by
 refine Ret.go ah aeF (by simp) fun hb w0 F0 hG=>?_
 unfold bare
 simp
 rw[akZ,akZ,akZ,akZ]
 cases t.null<;>cases t.fls<;>cases t.tru<;>cases t.any<;>simp
theorem afm (t:Ty):Ret prog M.aap [.agg (cT t)] (.bool (never t)):=by
 refine Ret.go ah aAe (by simp) fun hb w0 F0 hG=>?_
 unfold never
 cases h:t.all
 ·simp[h]
  intros
  refine ak.ret (by have:=aen t; unfold cT at this; rw[h] at this; exact this) ?_
  simp
 ·simp[h]
theorem anI (t:Ty):Ret prog M.yx [.agg (cT t)] (.bool (!t.all||bare t)):=by
 refine Ret.go ah ac1 (by simp) fun hb w0 F0 hG=>?_
 cases h:t.all
 ·simp[h]
 ·simp[h]
  intros
  refine ak.ret (by have:=aen t; unfold cT at this; rw[h] at this; exact this) ?_
  simp
theorem an3 (t:Ty):Ret prog M.yu [.agg (cT t)] (.bool (iQ t.texts&&(!t.any||t.texts.isEmpty))):=by
 refine Ret.go ah ac6 (by simp) fun hb w0 F0 hG=>?_
 simp
 intros
 refine ak.ret (aoF t.texts) ?_
 cases h1:iQ t.texts
 ·simp
 ·cases h2:t.any
  ·simp[h2]
  ·simp[h2,akZ]
set_option maxHeartbeats 4000000 in
theorem aoG (t:Ty):Ret prog M.zM [.agg (cT t)] (.bool (decide (t.nums.length≤1)&&t.nums.all jo)):=by
 refine Ret.go ah aeM (by simp) fun hb w0 F0 hG=>?_
 simp only[ig,jh,List.length_map,LIM,and_true] at hb
 generalize hB:t.nums.all jo=B
 simp
 intro v
 obtain⟨J,hJ⟩ : ∃ J:Nat→Unit→Prop,J=fun k _=>iy jo t.nums k:=⟨_,rfl⟩
 refine aU.cnt ah t.nums.length (fun k _=>⟨[(10,.int .i64 k),(9,.int .i64 t.nums.length),(8,.vec 2 false (t.nums.map dw)),(1,.ptr (1,v) 9 0 0)],[((1,v),some ⟨9,[cT t],false,true⟩)]⟩) J () (by rw[hJ]; exact .zero) (by simp) fun k _ hk hj=>?_
 have hw:=wrap64 (n:=(k:Int)+1) (by omega) (by omega)
 have hj' : iy jo t.nums k:=by rw[hJ] at hj; exact hj
 by_cases h1:k<t.nums.length
 ·have no:jo t.nums[k]=false→B=false:=fun h=>hB ▸ wZ h1 h
  have yes:jo t.nums[k]=true→J (k+1) ():=fun h=>by rw[hJ]; exact hj'.step h1 h
  have hs:jo t.nums[k]=(fu t.nums[k].low&&fu t.nums[k].high&&(eU t.nums[k].low||eU t.nums[k].high||(eu t.nums[k].low t.nums[k].high).isLE)):=rfl
  unfold fu at hs
  cases e1:eU t.nums[k].low
  ·cases e2:eU t.nums[k].high
   ·simp[h1,e1,e2]
    intros
    refine aH.ret (IG t.nums[k].low) ?_
    simp[h1,e1,e2]
    refine aH.ret (IG t.nums[k].high) ?_
    cases n1:yg t.nums[k].low
    ·simp[n1,e1,e2,h1,no (by rw[hs,e1,n1]; simp)]
    ·cases n2:yg t.nums[k].high
     ·simp[n1,n2,e1,e2,h1,no (by rw[hs,e2,n2]; simp)]
     ·rw[e1,e2,n1,n2] at hs
      simp[n1,n2,e1,e2]
      refine ak.ret (am2 t.nums[k].low t.nums[k].high) ?_
      simp[aeL,n1,n2]
      cases hc:eu t.nums[k].low t.nums[k].high<;>rw[hc] at hs
      ·simp[hw,h1]; exact⟨(),yes (by rw[hs]; rfl)⟩
      ·simp[hw,h1]; exact⟨(),yes (by rw[hs]; rfl)⟩
      ·simp[no (by rw[hs]; rfl)]
   ·simp[h1,e1,e2]
    intros
    refine aH.ret (IG t.nums[k].low) ?_
    cases n1:yg t.nums[k].low
    ·simp[n1,e1,e2,h1,no (by rw[hs,e1,n1]; simp)]
    ·simp[n1,e1,e2,hw,h1]
     exact⟨(),yes (by rw[hs,e1,e2,n1]; simp)⟩
  ·cases e2:eU t.nums[k].high
   ·simp[h1,e1,e2]
    intros
    refine aH.ret (IG t.nums[k].high) ?_
    cases n2:yg t.nums[k].high
    ·simp[n2,e1,e2,h1,no (by rw[hs,e2,n2]; simp)]
    ·simp[n2,e1,e2,hw,h1]
     exact⟨(),yes (by rw[hs,e1,e2,n2]; simp)⟩
   ·simp[e1,e2,hw,h1]
    exact⟨(),yes (by rw[hs,e1,e2]; simp)⟩
 ·have:B=true:=by rw[← hB]; exact hj'.all h1
  simp[h1,this]
  omega
end Go.Proofs.YtngjnfbngheccaaGreatDoor.Pv
set_option maxRecDepth 100000
namespace Go.Proofs.YtngjnfbngheccaaGreatDoor.Pv
open Go Go.Tidy
set_option maxHeartbeats 4000000 in
theorem aEH (t:Ty) (ih:∀ a∈t.arrays,Ret prog M.jK [.agg (cT a.item)] (.bool (aj a.item))):Ret prog M.tQ [.agg (cT t)] (.bool (decide (t.arrays.length≤1)&&t.arrays.all gu)):=by
 refine Ret.go ah abU (by simp) fun hb w0 F0 hG=>?_
 simp only[ig,jh,List.length_map,LIM,and_true] at hb
 generalize hB:t.arrays.all gu=B
 simp
 intro v
 obtain⟨J,hJ⟩ : ∃ J:Nat→Unit→Prop,J=fun k _=>iy gu t.arrays k:=⟨_,rfl⟩
 refine aU.cnt ah t.arrays.length (fun k _=>⟨[(8,.int .i64 k),(7,.int .i64 t.arrays.length),(6,.vec 11 false (t.arrays.map dz)),(1,.ptr (1,v) 9 0 0)],[((1,v),some ⟨9,[cT t],false,true⟩)]⟩) J () (by rw[hJ]; exact .zero) (by simp) fun k _ hk hj=>?_
 have hw:=wrap64 (n:=(k:Int)+1) (by omega) (by omega)
 have hj' : iy gu t.arrays k:=by rw[hJ] at hj; exact hj
 by_cases h1:k<t.arrays.length
 ·have no:gu t.arrays[k]=false→B=false:=fun h=>hB ▸ wZ h1 h
  have yes:gu t.arrays[k]=true→J (k+1) ():=fun h=>by rw[hJ]; exact hj'.step h1 h
  have hs:gu t.arrays[k]=(decide (0≤t.arrays[k].min)&&decide (-1≤t.arrays[k].max)&&(decide (t.arrays[k].max<0)||decide (t.arrays[k].min≤t.arrays[k].max))&&aj t.arrays[k].item&&(never t.arrays[k].item == decide (t.arrays[k].max=0))):=by
   cases t.arrays[k]; rfl
  have ih':=ih t.arrays[k] (List.getElem_mem h1)
  by_cases g1:t.arrays[k].min<0
  ·have g1' : ¬ 0≤t.arrays[k].min:=by omega
   simp[h1,g1,no (by rw[hs]; simp[g1'])]
  by_cases g2:t.arrays[k].max < -1
  ·have g2' : ¬ -1≤t.arrays[k].max:=by omega
   simp[h1,g1,g2,no (by rw[hs]; simp[g2'])]
  have g1' : 0≤t.arrays[k].min:=by omega
  have g2' : -1≤t.arrays[k].max:=by omega
  by_cases g34:0≤t.arrays[k].max∧t.arrays[k].max<t.arrays[k].min
  ·obtain⟨g3,g4⟩:=g34
   have g3' : ¬ t.arrays[k].max<0:=by omega
   have g4' : ¬ t.arrays[k].min≤t.arrays[k].max:=by omega
   simp[h1,g1,g2,g3,g4,no (by rw[hs]; simp[g3',g4'])]
  have g6:(decide (t.arrays[k].max<0)||decide (t.arrays[k].min≤t.arrays[k].max))=true:=by simp; omega
  rw[g6,decide_eq_true g1',decide_eq_true g2'] at hs
  by_cases g3:0≤t.arrays[k].max
  rotate_left
  ·have g5:¬ t.arrays[k].max=0:=by omega
   simp[h1,g1,g2,g3]
   intros
   refine aH.ret ih' ?_
   cases hf:aj t.arrays[k].item
   ·simp[h1,g1,g2,g3,no (by rw[hs,hf]; simp)]
   ·simp[h1,g1,g2,g3]
    refine aH.ret (afm t.arrays[k].item) ?_
    rw[hf] at hs
    cases hn:never t.arrays[k].item<;>rw[hn] at hs
    ·simp[g5,h1,hw]
     exact⟨(),yes (by rw[hs]; simp[g5])⟩
    ·simp[g5,h1,no (by rw[hs]; simp[g5])]
  ·have g4:¬ t.arrays[k].max<t.arrays[k].min:=by omega
   simp[h1,g1,g2,g3,g4]
   intros
   refine aH.ret ih' ?_
   cases hf:aj t.arrays[k].item
   ·simp[h1,g1,g2,g3,g4,no (by rw[hs,hf]; simp)]
   ·simp[h1,g1,g2,g3,g4]
    refine aH.ret (afm t.arrays[k].item) ?_
    rw[hf] at hs
    by_cases g5:t.arrays[k].max=0
    ·cases hn:never t.arrays[k].item<;>rw[hn] at hs
     ·simp[g5,h1,no (by rw[hs]; simp[g5])]
     ·simp[g5,h1,hw]
      exact⟨(),yes (by rw[hs]; simp[g5])⟩
    ·cases hn:never t.arrays[k].item<;>rw[hn] at hs
     ·simp[g5,h1,hw]
      exact⟨(),yes (by rw[hs]; simp[g5])⟩
     ·simp[g5,h1,no (by rw[hs]; simp[g5])]
 ·have:B=true:=by rw[← hB]; exact hj'.all h1
  simp[h1,this]
  omega
set_option maxHeartbeats 4000000 in
theorem aBx (t:Ty) (ih:∀ o∈t.objects,∀ f∈o.fields,Ret prog M.jK [.agg (cT f)] (.bool (aj f))) (ihr:∀ o∈t.objects,Ret prog M.jK [.agg (cT o.rest)] (.bool (aj o.rest))):Ret prog M.qJ [.agg (cT t)] (.bool (t.objects.all bg)):=by
 refine Ret.go ah aaZ (by simp) fun hb w0 F0 hG=>?_
 simp only[ig,jh,List.length_map,LIM,and_true] at hb
 generalize hB:t.objects.all bg=B
 simp
 intro v
 obtain⟨J,hJ⟩ : ∃ J:Nat→Unit→Prop,J=fun k _=>iy bg t.objects k:=⟨_,rfl⟩
 refine aU.cnt ah t.objects.length (fun k _=>⟨[(10,.int .i64 k),(9,.int .i64 t.objects.length),(8,.vec 12 false (t.objects.map au)),(1,.ptr (1,v) 9 0 0)],[((1,v),some ⟨9,[cT t],false,true⟩)]⟩) J () (by rw[hJ]; exact .zero) (by simp) fun k _ hk hj=>?_
 have hw:=wrap64 (n:=(k:Int)+1) (by omega) (by omega)
 have hj' : iy bg t.objects k:=by rw[hJ] at hj; exact hj
 by_cases h1:k<t.objects.length
 ·have no:bg t.objects[k]=false→B=false:=fun h=>hB ▸ wZ h1 h
  have yes:bg t.objects[k]=true→J (k+1) ():=fun h=>by rw[hJ]; exact hj'.step h1 h
  have hO:bg t.objects[k]=(decide (t.objects[k].names.length=t.objects[k].fields.length)&&decide (t.objects[k].names.length=t.objects[k].must.length)&&iQ t.objects[k].names&&aj t.objects[k].rest&&XK t.objects[k].fields&&(t.objects[k].fields.zip t.objects[k].must).all (fun p=>!p.2||!never p.1)):=by
   cases t.objects[k]; rfl
  have ih':=ih _ (List.getElem_mem h1)
  have ihr':=ihr _ (List.getElem_mem h1)
  have hbf:t.objects[k].fields.length≤140737488355328:=by
   have:=atu hb.2.2.2.2.2.2.2.2.2 t.objects[k] (List.getElem_mem h1)
   simp only[CU,ig,jh,List.length_map,LIM,and_true] at this
   omega
  generalize hoo:t.objects[k]=o at *
  by_cases g1:o.names.length=o.fields.length
  rotate_left
  ·have g1' : ¬ (o.names.length:Int)=o.fields.length:=by omega
   simp[h1,hoo,g1,g1',no (by rw[hO]; simp[g1])]
  have g1' : (o.names.length:Int)=o.fields.length:=by omega
  by_cases g2:o.names.length=o.must.length
  rotate_left
  ·have g2' : ¬ (o.names.length:Int)=o.must.length:=by omega
   simp[h1,hoo,← g1,g2,g2',no (by rw[hO]; simp[g2])]
  have g2' : (o.names.length:Int)=o.must.length:=by omega
  simp[h1,hoo,← g1,← g2]
  intro v4
  refine ak.ret (aoF o.names) ?_
  cases hr:iQ o.names
  ·simp[no (by rw[hO,hr]; simp)]
  simp
  refine ak.ret ihr' ?_
  cases hf:aj o.rest
  ·simp[no (by rw[hO,hf]; simp)]
  simp
  rw[decide_eq_true g1,decide_eq_true g2,hr,hf,VK] at hO
  obtain⟨J',hJ'⟩ : ∃ J:Nat→Unit→Prop,J=fun i _=>iy aj o.fields i∧iy (fun p:Ty × Bool=>!p.2||!never p.1) (o.fields.zip o.must) i:=⟨_,rfl⟩
  refine aU.cnt ah o.fields.length (fun i _=>⟨[(45,.int .i64 i),(44,.int .i64 o.fields.length),(43,.vec 9 false (o.fields.map fq)),(4,.ptr (4,v4) 12 0 0),(10,.int .i64 k),(9,.int .i64 t.objects.length),(8,.vec 12 false (t.objects.map au)),(1,.ptr (1,v) 9 0 0)],[((4,v4),some ⟨12,[cO o],false,true⟩),((1,v),some ⟨9,[cT t],false,true⟩)]⟩) J' () (by rw[hJ']; exact⟨.zero,.zero⟩) (by simp[g1]) fun i _ hi hji=>?_
  have hw2:=wrap64 (n:=(i:Int)+1) (by omega) (by omega)
  obtain⟨j1,j2⟩ : iy aj o.fields i∧iy (fun p:Ty × Bool=>!p.2||!never p.1) (o.fields.zip o.must) i:=by rw[hJ'] at hji; exact hji
  by_cases h2:i<o.fields.length
  ·have h3:i<o.must.length:=by omega
   have h4:i<(o.fields.zip o.must).length:=by simp; omega
   have hz:(o.fields.zip o.must)[i]=(o.fields[i],o.must[i]):=by simp
   cases e2:o.must[i]
   ·simp[h2,h3,e2]
    intros
    refine ak.ret (ih' o.fields[i] (List.getElem_mem h2)) ?_
    cases e1:aj o.fields[i]
    ·simp[h2,h3,e2,no (by rw[hO,wZ h2 e1]; simp)]
    ·simp[h2,h3,e2,hw2]
     exact⟨(),by rw[hJ']; exact⟨j1.step h2 e1,j2.step h4 (by rw[hz]; simp[e2])⟩⟩
   ·simp[h2,h3,e2]
    intros
    refine ak.ret (ih' o.fields[i] (List.getElem_mem h2)) ?_
    cases e1:aj o.fields[i]
    ·simp[h2,h3,e2,no (by rw[hO,wZ h2 e1]; simp)]
    ·simp[h2,h3,e2]
     refine ak.ret (afm o.fields[i]) ?_
     cases e3:never o.fields[i]
     ·simp[hw2,h2]
      exact⟨(),by rw[hJ']; exact⟨j1.step h2 e1,j2.step h4 (by rw[hz]; simp[e3])⟩⟩
     ·simp[no (by rw[hO,wZ h4 (by rw[hz]; simp[e2,e3])]; simp)]
  ·simp[h2,hw,h1]
   exact⟨(),yes (by rw[hO,j1.all h2,j2.all (by simp; omega)]; rfl)⟩
 ·have:B=true:=by rw[← hB]; exact hj'.all h1
  simp[h1,this]
set_option maxHeartbeats 4000000 in
theorem aqM (t:Ty) (hA:Ret prog M.tQ [.agg (cT t)] (.bool (decide (t.arrays.length≤1)&&t.arrays.all gu))) (hO:Ret prog M.qJ [.agg (cT t)] (.bool (t.objects.all bg))):Ret prog M.jK [.agg (cT t)] (.bool (aj t)):=by
 refine Ret.go ah akf (by simp) fun hb w0 F0 hG=>?_
 have hs:aj t=((!t.all||bare t)&&(decide (t.nums.length≤1)&&t.nums.all jo)&&(iQ t.texts&&(!t.any||t.texts.isEmpty))&&(decide (t.arrays.length≤1)&&t.arrays.all gu)&&t.objects.all bg):=by
  cases t
  simp only[aj,WZ,XG,Ty.all_mk,Ty.aa3,Ty.rz,Ty.any_mk,Ty.qP,Ty.pQ]
  rw[Bool.eq_iff_iff]
  simp only[Bool.and_eq_true]
  constructor
  ·rintro⟨⟨⟨⟨⟨⟨⟨h1,h2⟩,h3⟩,h4⟩,h5⟩,h6⟩,h7⟩,h8⟩; exact⟨⟨⟨⟨h1,h4,h5⟩,h2,h3⟩,h6,h7⟩,h8⟩
  ·rintro⟨⟨⟨⟨h1,h4,h5⟩,h2,h3⟩,h6,h7⟩,h8⟩; exact⟨⟨⟨⟨⟨⟨⟨h1,h2⟩,h3⟩,h4⟩,h5⟩,h6⟩,h7⟩,h8⟩
 generalize aj t=B at *
 simp
 intro v1 v2
 refine aU.rnd ah (.s (.s (.s (.s (.s (.s .z)))))) ?_
 simp only[ku]
 have w1:IntKind.i64.wrap 1=1:=wrap64 (by omega) (by omega)
 have w2:IntKind.i64.wrap 2=2:=wrap64 (by omega) (by omega)
 have w3:IntKind.i64.wrap 3=3:=wrap64 (by omega) (by omega)
 have w4:IntKind.i64.wrap 4=4:=wrap64 (by omega) (by omega)
 have w5:IntKind.i64.wrap 5=5:=wrap64 (by omega) (by omega)
 simp
 refine ak.ret (anI t) ?_
 cases e1:(!t.all||bare t)<;>rw[e1] at hs
 ·simp[hs]
 simp[w1,ku]
 refine ak.ret (aoG t) ?_
 cases e2:(decide (t.nums.length≤1)&&t.nums.all jo)<;>rw[e2] at hs
 ·simp[hs]
 simp[w2,ku]
 refine ak.ret (an3 t) ?_
 cases e3:(iQ t.texts&&(!t.any||t.texts.isEmpty))<;>rw[e3] at hs
 ·simp[hs]
 simp[w3,ku]
 refine ak.ret hA ?_
 cases e4:(decide (t.arrays.length≤1)&&t.arrays.all gu)<;>rw[e4] at hs
 ·simp[hs]
 simp[w4,ku]
 refine ak.ret hO ?_
 cases e5:t.objects.all bg<;>rw[e5] at hs
 ·simp[hs]
 simp[w5,ku,hs]
theorem Y7 (t:Ty):Ret prog M.jK [.agg (cT t)] (.bool (aj t)):=by
 induction hn:SizeOf.sizeOf t using Nat.strongRecOn generalizing t with
 | _ n ih =>
   subst hn
   exact aqM t (aEH t fun a ha=>ih _ (Y8 ha) a.item rfl) (aBx t (fun o ho f hf=>ih _ (QB ho hf) f rfl) fun o ho=>ih _ (OG ho) o.rest rfl)
end Go.Proofs.YtngjnfbngheccaaGreatDoor.Pv
set_option maxRecDepth 100000
namespace Go.Proofs.YtngjnfbngheccaaGreatDoor.Pv
open Go Go.Tidy
set_option maxHeartbeats 4000000 in
theorem aDr (t:Ty) (ht:aK t<2 ^ 62) (ha:∀ a∈t.arrays,Ret prog M.mH [.agg (cT a.item)] (.int .i64 (aK a.item:Nat)))
 (hr:∀ o∈t.objects,Ret prog M.mH [.agg (cT o.rest)] (.int .i64 (aK o.rest:Nat)))
 (hf:∀ o∈t.objects,∀ x∈o.fields,Ret prog M.mH [.agg (cT x)] (.int .i64 (aK x:Nat))) :
 Ret prog M.mH [.agg (cT t)] (.int .i64 (aK t:Nat)):=by
 refine Ret.go ah ak8 (by simp) fun hb w0 F0 hG=>?_
 simp only[ig,jh,List.length_map,LIM,and_true] at hb
 have hd:=ari t
 generalize aK t=H at *
 simp
 intro v
 obtain⟨J,hJ⟩ : ∃ J:Nat→Nat→Prop,J=fun k m=>m=jv (t.arrays.take k):=⟨_,rfl⟩
 refine aU.cnt ah t.arrays.length (fun (k m:Nat)=>⟨[(13,.int .i64 k),(12,.int .i64 t.arrays.length),(11,.vec 11 false (t.arrays.map dz)),(3,.int .i64 ((m:Int)-1)),(1,.ptr (1,v) 9 0 0)],[((1,v),some ⟨9,[cT t],false,true⟩)]⟩) J 0 (by simp[hJ,jv]) (by simp) fun k m hk hj=>?_
 have hw:=wrap64 (n:=(k:Int)+1) (by omega) (by omega)
 have hj' : m=jv (t.arrays.take k):=by rw[hJ] at hj; exact hj
 by_cases h1:k<t.arrays.length
 ·simp[h1]
  intro v5
  refine ak.ret (ha t.arrays[k] (List.getElem_mem h1)) ?_
  simp[hw]
  refine⟨h1,max m (aK t.arrays[k].item+1),?_,?_⟩
  ·rw[hJ]
   show _=jv _
   rw[anb h1,hj']
  ·omega
 ·have hm:m=jv t.arrays:=by rw[hj',List.take_of_length_le (by omega)]
  simp[h1]
  clear hj hj' hJ J
  obtain⟨J,hJ⟩ : ∃ J:Nat→Nat→Prop,J=fun k n=>n=max m (jy (t.objects.take k)):=⟨_,rfl⟩
  refine aU.cnt ah t.objects.length (fun (k n:Nat)=>⟨[(26,.int .i64 k),(25,.int .i64 t.objects.length),(24,.vec 12 false (t.objects.map au)),(3,.int .i64 ((n:Int)-1)),(1,.ptr (1,v) 9 0 0)],[((1,v),some ⟨9,[cT t],false,true⟩)]⟩) J m (by simp[hJ,jy]) (by simp) fun i n hi hj=>?_
  have hw:=wrap64 (n:=(i:Int)+1) (by omega) (by omega)
  have hj' : n=max m (jy (t.objects.take i)):=by rw[hJ] at hj; exact hj
  by_cases h2:i<t.objects.length
  ·simp[h2]
   intro v7
   refine ak.ret (hr t.objects[i] (List.getElem_mem h2)) ?_
   simp
   generalize ho:t.objects[i]=o at *
   have hm2:o∈t.objects:=ho ▸ List.getElem_mem h2
   obtain⟨J',hJ'⟩ : ∃ J:Nat→Nat→Prop,J=fun j p=>p=max (max n (aK o.rest+1)) (mh (o.fields.take j)):=⟨_,rfl⟩
   refine aU.cnt ah o.fields.length (fun (j p:Nat)=>⟨[(38,.int .i64 j),(37,.int .i64 o.fields.length),(36,.vec 9 false (o.fields.map fq)),(3,.int .i64 ((p:Int)-1)),(26,.int .i64 i),(25,.int .i64 t.objects.length),(24,.vec 12 false (t.objects.map au)),(1,.ptr (1,v) 9 0 0)],[((1,v),some ⟨9,[cT t],false,true⟩)]⟩) J' (max n (aK o.rest+1)) (by simp[hJ',mh]) (by simp; omega) fun j p hj2 hjj=>?_
   have hbo:o.fields.length≤140737488355328:=by
    have:=atu hb.2.2.2.2.2.2.2.2.2 o hm2
    simp only[CU,ig,jh,List.length_map,LIM,and_true] at this
    omega
   have hw':=wrap64 (n:=(j:Int)+1) (by omega) (by omega)
   have hjj' : p=max (max n (aK o.rest+1)) (mh (o.fields.take j)):=by rw[hJ'] at hjj; exact hjj
   by_cases h3:j<o.fields.length
   ·simp[h2,h3]
    intro v9
    refine ak.ret (hf o hm2 o.fields[j] (List.getElem_mem h3)) ?_
    simp[hw']
    refine⟨h3,max p (aK o.fields[j]+1),?_,?_⟩
    ·rw[hJ']
     show _=max _ (mh _)
     rw[am4 h3,hjj']
     omega
    ·omega
   ·have hp:p=max (max n (aK o.rest+1)) (mh o.fields):=by rw[hjj',List.take_of_length_le (by omega)]
    simp[h2,h3,hw]
    refine⟨p,?_,rfl⟩
    rw[hJ]
    show _=max _ (jy _)
    rw[ane h2,hp,hj',ho]
    omega
  ·have hn:n=H:=by rw[hj',List.take_of_length_le (by omega),hd,hm]
   have w1:=wrap64 (n:=(H:Int)) (by omega) (by omega)
   simp[h2,hn,w1]
theorem ayY (t:Ty) (ht:aK t<2 ^ 62):Ret prog M.mH [.agg (cT t)] (.int .i64 (aK t:Nat)):=by
 induction hn:SizeOf.sizeOf t using Nat.strongRecOn generalizing t with
 | _ n ih =>
   subst hn
   have hd:=ari t
   refine aDr t ht (fun a ha=>?_) (fun o ho=>?_) fun o ho x hx=>?_
   ·have:=aFz ha
    have h2:aK a.item<2 ^ 62:=by omega
    exact ih _ (Y8 ha) a.item h2 rfl
   ·have:=(aor ho).1
    have h2:aK o.rest<2 ^ 62:=by omega
    exact ih _ (OG ho) o.rest h2 rfl
   ·have h3:=(aor ho).2
    have h4:=aER hx
    have h2:aK x<2 ^ 62:=by omega
    exact ih _ (QB ho hx) x h2 rfl
end Go.Proofs.YtngjnfbngheccaaGreatDoor.Pv
set_option maxRecDepth 100000
namespace Go.Proofs.YtngjnfbngheccaaGreatDoor.Pv
open Go Go.Tidy
theorem vg (fl:Bool) (xs:List (List PV)) (hx:xs.length≤68719476736):gU prog M.l7 [.vec 1 fl xs] 1 xs:=by
 refine gU.go ah akO (by simp) fun hb w0 F0 hG=>?_
 simp
 omega
theorem acU (fl:Bool) (xs:List (List PV)) (hx:xs.length≤68719476736):gU prog M.Gy [.vec 1 fl xs] 1 xs:=by
 refine gU.go ah an0 (by simp) fun hb w0 F0 hG=>?_
 simp
 omega
theorem ac8 (fl:Bool) (xs:List (List PV)) (hx:xs.length≤68719476736):gU prog M.FU [.vec 2 fl xs] 2 xs:=by
 refine gU.go ah anX (by simp) fun hb w0 F0 hG=>?_
 simp
 omega
theorem aeu (fl:Bool) (xs:List (List PV)) (hx:xs.length≤68719476736):gU prog M.JO [.vec 11 fl xs] 11 xs:=by
 refine gU.go ah apM (by simp) fun hb w0 F0 hG=>?_
 simp
 omega
theorem Xk (fl:Bool) (xs:List (List PV)) (hx:xs.length≤68719476736):gU prog M.zK [.vec 12 fl xs] 12 xs:=by
 refine gU.go ah aot (by simp) fun hb w0 F0 hG=>?_
 simp
 omega
theorem ada (fl:Bool) (xs:List (List PV)) (hx:xs.length≤68719476736):gU prog M.Fu [.vec 9 fl xs] 9 xs:=by
 refine gU.go ah an1 (by simp) fun hb w0 F0 hG=>?_
 simp
 omega
theorem amm (n:Nat) (hn:n≤34359738368):gU prog M.sU [.vec 1 true [],.int .i64 n] 1 []:=by
 refine gU.go ah abg (by simp) fun hb w0 F0 hG=>?_
 have h0:¬ (n:Int)<0:=by omega
 have w1:=wrap64 (n:=(n:Int)) (by omega) (by omega)
 have w2:=wrap64 (n:=0) (by omega) (by omega)
 by_cases h1:0<n
 ·have h1' : (0:Int)<n:=by omega
  have h2:(1:Int)≤n:=by omega
  have h3:(n:Int)≤34359738368:=by omega
  simp
  refine bF.go ah ?_
  simp[h0]
  refine bF.go ah ?_
  simp[h0,h1,h1',h2,h3,w1,w2]
 ·obtain rfl:n=0:=by omega
  simp
  refine bF.go ah ?_
  simp
  refine bF.go ah ?_
  simp[w2]
theorem aoV (n:Nat) (hn:n≤34359738368):gU prog M.u7 [.vec 2 true [],.int .i64 n] 2 []:=by
 refine gU.go ah aew (by simp) fun hb w0 F0 hG=>?_
 have h0:¬ (n:Int)<0:=by omega
 have w1:=wrap64 (n:=(n:Int)) (by omega) (by omega)
 have w2:=wrap64 (n:=0) (by omega) (by omega)
 by_cases h1:0<n
 ·have h1' : (0:Int)<n:=by omega
  have h2:(1:Int)≤n:=by omega
  have h3:(n:Int)≤34359738368:=by omega
  simp
  refine bF.go ah ?_
  simp[h0]
  refine bF.go ah ?_
  simp[h0,h1,h1',h2,h3,w1,w2]
 ·obtain rfl:n=0:=by omega
  simp
  refine bF.go ah ?_
  simp
  refine bF.go ah ?_
  simp[w2]
theorem aqO (n:Nat) (hn:n≤34359738368):gU prog M.xg [.vec 11 true [],.int .i64 n] 11 []:=by
 refine gU.go ah afT (by simp) fun hb w0 F0 hG=>?_
 have h0:¬ (n:Int)<0:=by omega
 have w1:=wrap64 (n:=(n:Int)) (by omega) (by omega)
 have w2:=wrap64 (n:=0) (by omega) (by omega)
 by_cases h1:0<n
 ·have h1' : (0:Int)<n:=by omega
  have h2:(1:Int)≤n:=by omega
  have h3:(n:Int)≤34359738368:=by omega
  simp
  refine bF.go ah ?_
  simp[h0]
  refine bF.go ah ?_
  simp[h0,h1,h1',h2,h3,w1,w2]
 ·obtain rfl:n=0:=by omega
  simp
  refine bF.go ah ?_
  simp
  refine bF.go ah ?_
  simp[w2]
theorem aq5 (n:Nat) (hn:n≤34359738368):gU prog M.w9 [.vec 12 true [],.int .i64 n] 12 []:=by
 refine gU.go ah af9 (by simp) fun hb w0 F0 hG=>?_
 have h0:¬ (n:Int)<0:=by omega
 have w1:=wrap64 (n:=(n:Int)) (by omega) (by omega)
 have w2:=wrap64 (n:=0) (by omega) (by omega)
 by_cases h1:0<n
 ·have h1' : (0:Int)<n:=by omega
  have h2:(1:Int)≤n:=by omega
  have h3:(n:Int)≤34359738368:=by omega
  simp
  refine bF.go ah ?_
  simp[h0]
  refine bF.go ah ?_
  simp[h0,h1,h1',h2,h3,w1,w2]
 ·obtain rfl:n=0:=by omega
  simp
  refine bF.go ah ?_
  simp
  refine bF.go ah ?_
  simp[w2]
theorem ajt (f1 f2:Bool) (a b:List (List PV)) (hn:a.length+b.length≤34359738368):gU prog M.qp [.vec 1 false [[.vec 1 f1 a],[.vec 1 f2 b]]] 1 (a++b):=by
 refine gU.go ah ZU (by simp) fun hb w0 F0 hG=>?_
 have h0:¬ (a.length:Int)<0:=by omega
 have h0' : ¬ ((a.length:Int)+b.length)<0:=by omega
 have w1:=wrap64 (n:=(a.length:Int)) (by omega) (by omega)
 have w2:=wrap64 (n:=(a.length:Int)+b.length) (by omega) (by omega)
 have k1:=wrap64 (n:=1) (by omega) (by omega)
 have k2:=wrap64 (n:=2) (by omega) (by omega)
 have hc:=amm (a.length+b.length) (by omega)
 rw[show (((a.length+b.length:Nat)):Int)=(a.length:Int)+b.length by omega] at hc
 simp
 refine aU.rnd ah (.s (.s (.s .z))) ?_
 simp[ku]
 refine bF.go ah ?_
 simp[h0,w1,k1,k2,ku]
 refine bF.go ah ?_
 simp[h0',w1,w2,k1,k2,ku]
 refine ak.ait (by simp[al6,YW]) hc fun v hv=>?_
 simp
 refine aU.rnd ah (.s (.s (.s .z))) ?_
 simp[k1,k2,ku]
 have q1:a.length≤68719476736:=by omega
 have q2:a.length+b.length≤68719476736:=by omega
 simp[q1,q2]
 exact List.take_of_length_le (by simp)
theorem al1 (f1 f2:Bool) (a b:List (List PV)) (hn:a.length+b.length≤34359738368):gU prog M.sJ [.vec 1 false [[.vec 2 f1 a],[.vec 2 f2 b]]] 2 (a++b):=by
 refine gU.go ah abT (by simp) fun hb w0 F0 hG=>?_
 have h0:¬ (a.length:Int)<0:=by omega
 have h0' : ¬ ((a.length:Int)+b.length)<0:=by omega
 have w1:=wrap64 (n:=(a.length:Int)) (by omega) (by omega)
 have w2:=wrap64 (n:=(a.length:Int)+b.length) (by omega) (by omega)
 have k1:=wrap64 (n:=1) (by omega) (by omega)
 have k2:=wrap64 (n:=2) (by omega) (by omega)
 have hc:=aoV (a.length+b.length) (by omega)
 rw[show (((a.length+b.length:Nat)):Int)=(a.length:Int)+b.length by omega] at hc
 simp
 refine aU.rnd ah (.s (.s (.s .z))) ?_
 simp[ku]
 refine bF.go ah ?_
 simp[h0,w1,k1,k2,ku]
 refine bF.go ah ?_
 simp[h0',w1,w2,k1,k2,ku]
 refine ak.ait (by simp[al6,YW]) hc fun v hv=>?_
 simp
 refine aU.rnd ah (.s (.s (.s .z))) ?_
 simp[k1,k2,ku]
 have q1:a.length≤68719476736:=by omega
 have q2:a.length+b.length≤68719476736:=by omega
 simp[q1,q2]
 exact List.take_of_length_le (by simp)
theorem anK (f1 f2:Bool) (a b:List (List PV)) (hn:a.length+b.length≤34359738368):gU prog M.uG [.vec 1 false [[.vec 11 f1 a],[.vec 11 f2 b]]] 11 (a++b):=by
 refine gU.go ah ac5 (by simp) fun hb w0 F0 hG=>?_
 have h0:¬ (a.length:Int)<0:=by omega
 have h0' : ¬ ((a.length:Int)+b.length)<0:=by omega
 have w1:=wrap64 (n:=(a.length:Int)) (by omega) (by omega)
 have w2:=wrap64 (n:=(a.length:Int)+b.length) (by omega) (by omega)
 have k1:=wrap64 (n:=1) (by omega) (by omega)
 have k2:=wrap64 (n:=2) (by omega) (by omega)
 have hc:=aqO (a.length+b.length) (by omega)
 rw[show (((a.length+b.length:Nat)):Int)=(a.length:Int)+b.length by omega] at hc
 simp
 refine aU.rnd ah (.s (.s (.s .z))) ?_
 simp[ku]
 refine bF.go ah ?_
 simp[h0,w1,k1,k2,ku]
 refine bF.go ah ?_
 simp[h0',w1,w2,k1,k2,ku]
 refine ak.ait (by simp[al6,YW]) hc fun v hv=>?_
 simp
 refine aU.rnd ah (.s (.s (.s .z))) ?_
 simp[k1,k2,ku]
 have q1:a.length≤68719476736:=by omega
 have q2:a.length+b.length≤68719476736:=by omega
 simp[q1,q2]
 exact List.take_of_length_le (by simp)
theorem anW (f1 f2:Bool) (a b:List (List PV)) (hn:a.length+b.length≤34359738368):gU prog M.uH [.vec 1 false [[.vec 12 f1 a],[.vec 12 f2 b]]] 12 (a++b):=by
 refine gU.go ah ac2 (by simp) fun hb w0 F0 hG=>?_
 have h0:¬ (a.length:Int)<0:=by omega
 have h0' : ¬ ((a.length:Int)+b.length)<0:=by omega
 have w1:=wrap64 (n:=(a.length:Int)) (by omega) (by omega)
 have w2:=wrap64 (n:=(a.length:Int)+b.length) (by omega) (by omega)
 have k1:=wrap64 (n:=1) (by omega) (by omega)
 have k2:=wrap64 (n:=2) (by omega) (by omega)
 have hc:=aq5 (a.length+b.length) (by omega)
 rw[show (((a.length+b.length:Nat)):Int)=(a.length:Int)+b.length by omega] at hc
 simp
 refine aU.rnd ah (.s (.s (.s .z))) ?_
 simp[ku]
 refine bF.go ah ?_
 simp[h0,w1,k1,k2,ku]
 refine bF.go ah ?_
 simp[h0',w1,w2,k1,k2,ku]
 refine ak.ait (by simp[al6,YW]) hc fun v hv=>?_
 simp
 refine aU.rnd ah (.s (.s (.s .z))) ?_
 simp[k1,k2,ku]
 have q1:a.length≤68719476736:=by omega
 have q2:a.length+b.length≤68719476736:=by omega
 simp[q1,q2]
 exact List.take_of_length_le (by simp)
end Go.Proofs.YtngjnfbngheccaaGreatDoor.Pv
set_option maxRecDepth 100000
namespace Go.Proofs.YtngjnfbngheccaaGreatDoor.Pv
open Go Go.Tidy
theorem Nk (o:Ob):Ret prog M.zH [.agg (cO o)] (.agg (cT (jk o))):=by
 refine Ret.go ah aGH (by simp) fun hb w0 F0 hG=>?_
 simp[jk,CU]
theorem aCf (a b:S) (ha:fu a=true) (hb' : fu b=true):Ret prog M.Sj [.str a,.str b] (.str (aie a b)):=by
 refine Ret.go ah am3 (by simp) fun hb w0 F0 hG=>?_
 unfold aie
 rw[awu]
 have hc:=agF a b
 simp
 refine ak.ret hc ?_
 cases e1:eU a
 ·cases e2:eU b
  ·have n1:=fU ha e1
   have n2:=fU hb' e2
   cases eu a b<;>simp[e1,e2,n1,n2,dZ]
  ·simp[e1,e2]
   exact yG.1 e2
 ·simp[e1]
  exact yG.1 e1
theorem azg (a b:S) (ha:fu a=true) (hb' : fu b=true):Ret prog M.OU [.str a,.str b] (.str (acy a b)):=by
 refine Ret.go ah akS (by simp) fun hb w0 F0 hG=>?_
 unfold acy
 rw[awu]
 have hc:=agF a b
 simp
 refine ak.ret hc ?_
 cases e1:eU a
 ·cases e2:eU b
  ·have n1:=fU ha e1
   have n2:=fU hb' e2
   cases eu a b<;>simp[e1,e2,n1,n2,dZ]
  ·simp[e1,e2]
   exact yG.1 e2
 ·simp[e1]
  exact yG.1 e1
theorem aGj (a b:List Span) (ha:∀ s∈a,jo s=true) (hb' : ∀ s∈b,jo s=true) (hl:a.length+b.length≤34359738368) :
 Ret prog M.VW [.vec 2 false (a.map dw),.vec 2 false (b.map dw)] (.vec 2 false ((Av a b).map dw)):=by
 refine Ret.go ah aoT (by simp) fun hb w0 F0 hG=>?_
 have hc:=al1 false false (a.map dw) (b.map dw) (by simpa using hl)
 cases a with
 | nil =>
   simp
   intros
   refine ak.zn (by simpa using hc) ?_
   intro v hv
   simp[Av]
 | cons x a =>
   cases b with
   | nil =>
     simp
     intros
     refine ak.zn (by simpa using hc) ?_
     intro v hv
     simp[Av]
   | cons y b =>
     have h1:=aev.1 (ha x (by simp))
     have h2:=aev.1 (hb' y (by simp))
     have q:¬ ((a.length:Int)+1=0):=by omega
     have q' : ¬ ((b.length:Int)+1=0):=by omega
     have q2:(0:Int)<(a.length:Int)+1:=by omega
     have q3:(0:Int)<(b.length:Int)+1:=by omega
     simp[q,q',q2,q3]
     intros
     refine aH.ret (aCf x.low y.low h1.1 h2.1) ?_
     simp[q,q',q2,q3]
     refine aH.ret (azg x.high y.high h1.2.1 h2.2.1) ?_
     simp[q,q',q2,q3,Av]
theorem aqS (a b:S):Ret prog M.uo [.str a,.str b] (.bool (sLt a b)):=by
 refine Ret.go ah af5 (by simp) fun hb w0 F0 hG=>?_
 simp
 refine ak.ret (XW a) ?_
 simp
theorem akT (a:S):Ret prog M.zN [.str a] (.bool false):=by
 refine Ret.go ah akY (by simp) fun hb w0 F0 hG=>?_
 simp[sEq]
end Go.Proofs.YtngjnfbngheccaaGreatDoor.Pv
set_option maxRecDepth 100000
namespace Go.Proofs.YtngjnfbngheccaaGreatDoor.Pv
open Go Go.Tidy
theorem aIs {n:Int} (h1:0≤n) (h2:n≤18446744073709551615):IntKind.u64.wrap n=n:=by
 simp[IntKind.wrap,IntKind.bits,IntKind.signed]
 omega
theorem OH (l:List S) (x:S) (i:Nat) (hi:i≤l.length) (h1:∀ k,(h:k<l.length)→k<i→sLt l[k] x=true) (h2:∀ k,(h:k<l.length)→i≤k→sLt l[k] x=false) :
 Ret prog M.oO [.vec 1 false (l.map encStr),.str x] (.tup [.int .i64 i,.bool (decide (l[i]? = some x))]):=by
 refine Ret.go ah ad5 (by simp) fun hb w0 F0 hG=>?_
 simp only[ig,jh,List.length_map,LIM,and_true] at hb
 simp
 obtain⟨J,hJ⟩ : ∃ J:Nat × Nat→Prop,J=fun g=>g.1≤i∧i≤g.2∧g.2≤l.length:=⟨_,rfl⟩
 refine aU.go ah (fun g:Nat × Nat=>⟨[(7,.int .i64 g.1),(8,.int .i64 g.2),(6,.int .i64 l.length),(1,.str x),(0,.vec 1 false (l.map encStr))],[]⟩) J (fun g=>g.2-g.1) (0,l.length) (by simp[hJ]; exact hi) (by simp) fun g hj=>?_
 obtain⟨a,b⟩:=g
 have hj' : a≤i∧i≤b∧b≤l.length:=by rw[hJ] at hj; exact hj
 obtain⟨g1,g2,g3⟩:=hj'
 have w1:=wrap64 (n:=(a:Int)+b) (by omega) (by omega)
 have w2:=aIs (n:=(a:Int)+b) (by omega) (by omega)
 by_cases hab:a<b
 ·have hd:((a:Int)+b).fdiv 2=((a+b) / 2:Nat):=by
     rw[Int.fdiv_eq_ediv_of_nonneg _ (by omega)]; omega
  have w3:=aIs (n:=(((a+b) / 2:Nat):Int)) (by omega) (by omega)
  have w4:=wrap64 (n:=(((a+b) / 2:Nat):Int)) (by omega) (by omega)
  have w5:=wrap64 (n:=(((a+b) / 2:Nat):Int)+1) (by omega) (by omega)
  generalize hh:(a+b) / 2=h at *
  have hl:h<l.length:=by omega
  have e:=h1 h hl
  have e':=h2 h hl
  have p2:(2:Int) ^ min 1 IntKind.u64.bits=2:=by decide
  simp[hab,w1,w2,p2,hd,w3,w4]
  refine bF.go ah ?_
  simp[hl]
  refine ak.ret (aqS l[h] x) ?_
  by_cases hc:h<i
  ·simp[e hc,w5]
   refine⟨h+1,b,?_,by omega,by simp⟩
   rw[hJ]; exact⟨by show h+1≤i; omega,g2,g3⟩
  ·simp[e' (by omega)]
   refine⟨a,h,?_,by omega,by simp⟩
   rw[hJ]; exact⟨g1,by show i≤h; omega,by show h≤l.length; omega⟩
 ·obtain rfl:a=b:=by omega
  obtain rfl:a=i:=by omega
  by_cases hc:a<l.length
  ·have hq:sEq l[a] x=decide (l[a]=x):=by
      rw[Bool.eq_iff_iff,uf]; simp
   cases hd:decide (l[a]=x)
   ·simp[hc,hq,hd]
    refine ak.ret (akT _) ?_
    simp[hc,hq,hd]
   ·simp[hc,hq,hd]
  ·simp[hc]
theorem aKU (l:List S) (x:S) (hs:SSs l):∃ i:Nat,i≤l.length∧(∀ k,(h:k<l.length)→k<i→sLt l[k] x=true)∧(∀ k,(h:k<l.length)→i≤k→sLt l[k] x=false):=by
 induction l with
 | nil=>exact⟨0,by simp,by simp,by simp⟩
 | cons a l ih =>
   have h':=List.pairwise_cons.1 hs
   cases ha:sLt a x
   ·refine⟨0,by simp,by simp,fun k hk _=>?_⟩
    cases k with
    | zero=>exact ha
    | succ k =>
      cases e:sLt ((a::l)[k+1]) x
      ·rfl
      ·have hk' : k<l.length:=by simpa using hk
       have h1:=xk.1 (h'.1 l[k] (List.getElem_mem hk'))
       have:=aKe h1 (by simpa using e)
       rw[ha] at this; cases this
   ·obtain⟨i,i1,i2,i3⟩:=ih h'.2
    refine⟨i+1,by simp; omega,fun k hk hlt=>?_,fun k hk hge=>?_⟩
    ·cases k with
     | zero=>exact ha
     | succ k=>exact i2 k (by simpa using hk) (by omega)
    ·cases k with
     | zero=>omega
     | succ k=>exact i3 k (by simpa using hk) (by omega)
theorem aEc {o:Ob} {n:S} {i:Nat} (h1:o.names.length=o.fields.length) (h2:o.names.length=o.must.length) (hi:i<o.names.length) (hs:SSs o.names) (e:o.names[i]=n):bn o n=(o.fields[i]'(by omega),o.must[i]'(by omega)):=by
 have hl:i<(o.names.zip (o.fields.zip o.must)).length:=by simp; omega
 have hz:(o.names.zip (o.fields.zip o.must))[i]=(o.names[i],o.fields[i]'(by omega),o.must[i]'(by omega)):=by simp
 unfold bn
 rw[axU hl (fun j hj hlt=>?_) (by rw[hz]; exact uf.2 e),hz]
 have hjn:j<o.names.length:=by omega
 have hz' : (o.names.zip (o.fields.zip o.must))[j]=(o.names[j],o.fields[j]'(by omega),o.must[j]'(by omega)):=by simp
 rw[hz']
 have:=xk.1 (List.pairwise_iff_getElem.1 hs j i hjn hi hlt)
 show (!sEq o.names[j] n)=true
 cases e' : sEq o.names[j] n
 ·rfl
 ·rw[uf.1 e',e,aum] at this; cases this
theorem aE7 {o:Ob} {n:S} (hn:n ∉ o.names):bn o n=(o.rest,false):=by
 unfold bn
 have:(o.names.zip (o.fields.zip o.must)).find? (fun p=>sEq p.1 n)=none:=by
  rw[List.find?_eq_none]
  intro p hp hq
  exact hn (uf.1 hq ▸ (List.of_mem_zip hp).1)
 rw[this]
theorem aKP {l:List S} {x:S} {i:Nat} (hs:SSs l) (h1:∀ k,(h:k<l.length)→k<i→sLt l[k] x=true) (h2:∀ k,(h:k<l.length)→i≤k→sLt l[k] x=false) (hn:l[i]?≠some x):x ∉ l:=by
 intro hx
 obtain⟨k,hk,e⟩:=List.getElem_of_mem hx
 by_cases hki:k<i
 ·have:=h1 k hk hki
  rw[e,aum] at this; cases this
 ·by_cases hik:i=k
  ·subst hik
   exact hn (by rw[List.getElem?_eq_getElem hk,e])
  ·have a:=xk.1 (List.pairwise_iff_getElem.1 hs i k (by omega) hk (by omega))
   have b:=h2 i (by omega) (Nat.le_refl _)
   rw[e,b] at a; cases a
set_option maxHeartbeats 4000000 in
theorem aDy (o:Ob) (n:S) (h1:o.names.length=o.fields.length) (h2:o.names.length=o.must.length) (hs:SSs o.names):Ret prog M.ahd [.agg (cO o),.str n] (.tup [.agg (cT (bn o n).1),.bool (bn o n).2]):=by
 obtain⟨i,i1,i2,i3⟩:=aKU o.names n hs
 have hc:=OH o.names n i i1 i2 i3
 have hR:bn o n=if h:o.names[i]? = some n then (o.fields[i]'(by have:=(List.getElem?_eq_some_iff.1 h).1; omega),o.must[i]'(by have:=(List.getElem?_eq_some_iff.1 h).1; omega)) else (o.rest,false):=by
  split
  ·rename_i h
   obtain⟨hi,e⟩:=List.getElem?_eq_some_iff.1 h
   exact aEc h1 h2 hi hs e
  ·rename_i h
   exact aE7 (aKP hs i2 i3 h)
 generalize bn o n=R at *
 refine Ret.go ah aDz (by simp) fun hb w0 F0 hG=>?_
 simp
 intros
 refine ak.ret hc ?_
 by_cases h:o.names[i]? = some n
 ·have hi:i<o.names.length:=(List.getElem?_eq_some_iff.1 h).1
  have g2:i<o.fields.length:=by omega
  have g3:i<o.must.length:=by omega
  rw[dif_pos h] at hR
  simp[h,g2,g3,hR]
 ·rw[dif_neg h] at hR
  simp[h,hR]
end Go.Proofs.YtngjnfbngheccaaGreatDoor.Pv
set_option maxRecDepth 100000
namespace Go.Proofs.YtngjnfbngheccaaGreatDoor.Pv
open Go Go.Tidy
def ab6 {α:Type} (p:α→Bool) (l:List α):Int:=if l.any p then (l.findIdx p:Nat) else -1
theorem aw1 {α:Type} {p:α→Bool} {l:List α} {k:Nat} (hk:k<l.length) (ha:iy (fun x=>!p x) l k) (h:p l[k]=true):ab6 p l=k:=by
 have h1:l.any p=true:=List.any_eq_true.2 ⟨_,List.getElem_mem hk,h⟩
 have h2:l.findIdx p=k:=(List.findIdx_eq hk).2 ⟨h,fun j hj=>by
  have:=ha j (by omega) hj
  rw[Bool.not_eq_true'] at this; exact this⟩
 simp[ab6,h1,h2]
theorem ax9 {α:Type} {p:α→Bool} {l:List α} {k:Nat} (ha:iy (fun x=>!p x) l k) (hk:¬ k<l.length):ab6 p l=-1:=by
 have:=ha.all hk
 have h1:l.any p=false:=by
  rw[List.any_eq_false]; simpa[List.all_eq_true] using this
 simp[ab6,h1]
theorem axp {α:Type} (p:α→Bool) (l:List α):decide (0≤ab6 p l)=l.any p:=by
 unfold ab6
 cases l.any p<;>simp
theorem akF (l:List S) (x:S):Ret prog M.MQ [.vec 1 false (l.map encStr),.str x] (.int .i64 (ab6 (fun u=>sEq u x) l)):=by
 refine Ret.go ah aki (by simp) fun hb w0 F0 hG=>?_
 simp only[ig,jh,List.length_map,LIM,and_true] at hb
 generalize hB:ab6 (fun u=>sEq u x) l=B
 obtain⟨J,hJ⟩ : ∃ J:Nat→Unit→Prop,J=fun k _=>iy (fun u=>!sEq u x) l k:=⟨_,rfl⟩
 simp
 refine aU.cnt ah l.length (fun k _=>⟨[(8,.int .i64 k),(7,.int .i64 l.length),(1,.str x),(0,.vec 1 false (l.map encStr))],[]⟩) J () (by rw[hJ]; exact .zero) (by simp) fun k _ hk hj=>?_
 have hw:=wrap64 (n:=(k:Int)+1) (by omega) (by omega)
 have hj' : iy (fun u=>!sEq u x) l k:=by rw[hJ] at hj; exact hj
 by_cases g1:k<l.length
 ·have hq:sEq x l[k]=sEq l[k] x:=by rw[Bool.eq_iff_iff,uf,uf]; exact eq_comm
  cases e1:sEq l[k] x
  ·simp[g1,hq,e1,hw]
   exact⟨(),by rw[hJ]; exact hj'.step g1 (by simp[e1])⟩
  ·have:=aw1 g1 hj' e1
   simp[g1,hq,e1]
   rw[← hB,this]
 ·have:B=-1:=by rw[← hB]; exact ax9 hj' g1
  have w1:=wrap64 (n:=-1) (by omega) (by omega)
  simp[g1,this,w1]
theorem Dz (l:List S) (x:S):Ret prog M.wu [.vec 1 false (l.map encStr),.str x] (.bool (l.any fun u=>sEq u x)):=by
 refine Ret.go ah ah7 (by simp) fun hb w0 F0 hG=>?_
 rw[← axp]
 simp
 refine ak.ret (akF l x) ?_
 simp
theorem agB (l:List S) (fid:Nat) (caps:List PV) (p:S→Bool) (hc:∀ hl,og hl caps=caps) (hk:∀ hl,jm hl caps=[]) (hok:∀ hl,okL hl caps) (hp:∀ s∈l,Ret prog fid (.str s::caps) (.bool (p s))):Ret prog M.Bg [.vec 1 false (l.map encStr),.fn fid [] caps] (.int .i64 (ab6 p l)):=by
 refine Ret.go ah agR (by simp) fun hb w0 F0 hG=>?_
 simp only[ig,jh,List.length_map,LIM,and_true] at hb
 generalize hB:ab6 p l=B
 obtain⟨J,hJ⟩ : ∃ J:Nat→Unit→Prop,J=fun k _=>iy (fun u=>!p u) l k:=⟨_,rfl⟩
 simp
 refine aU.cnt ah l.length (fun k _=>⟨[(8,.int .i64 k),(7,.int .i64 l.length),(1,.fn fid [] caps),(0,.vec 1 false (l.map encStr))],[]⟩) J () (by rw[hJ]; exact .zero) (by simp) fun k _ hk' hj=>?_
 have hw:=wrap64 (n:=(k:Int)+1) (by omega) (by omega)
 have hj' : iy (fun u=>!p u) l k:=by rw[hJ] at hj; exact hj
 by_cases g1:k<l.length
 ·cases e1:p l[k]
  ·simp[g1,hw]
   refine ak.ret (r:=.bool (p l[k])) (by simp[hc]; exact hp _ (List.getElem_mem g1)) ?_
   simp[e1,hc,hk,hok,hw]
   exact⟨g1,(),by rw[hJ]; exact hj'.step g1 (by simp[e1])⟩
  ·have:=aw1 g1 hj' e1
   simp[g1,hw]
   refine ak.ret (r:=.bool (p l[k])) (by simp[hc]; exact hp _ (List.getElem_mem g1)) ?_
   simp[e1,hc,hk,hok,hw]
   rw[← hB,this]
 ·have:B=-1:=by rw[← hB]; exact ax9 hj' g1
  have w1:=wrap64 (n:=-1) (by omega) (by omega)
  simp[g1,this,w1]
theorem adG (l:List S) (fid:Nat) (caps:List PV) (p:S→Bool) (hc:∀ hl,og hl caps=caps) (hk:∀ hl,jm hl caps=[]) (hok:∀ hl,okL hl caps) (hp:∀ s∈l,Ret prog fid (.str s::caps) (.bool (p s))):Ret prog M.yH [.vec 1 false (l.map encStr),.fn fid [] caps] (.bool (l.any p)):=by
 refine Ret.go ah adP (by simp) fun hb w0 F0 hG=>?_
 rw[← axp]
 simp
 refine ak.ret (r:=.int .i64 (ab6 p l)) (by simp[hc]; exact agB l fid caps p hc hk hok hp) ?_
 simp[hc,hk,hok]
theorem ajI (l:List Ob) (fid:Nat) (caps:List PV) (p:Ob→Bool) (hc:∀ hl,og hl caps=caps) (hk:∀ hl,jm hl caps=[]) (hok:∀ hl,okL hl caps) (hp:∀ s∈l,Ret prog fid (.agg (cO s)::caps) (.bool (p s))):Ret prog M.KO [.vec 12 false (l.map au),.fn fid [] caps] (.int .i64 (ab6 p l)):=by
 refine Ret.go ah ajS (by simp) fun hb w0 F0 hG=>?_
 simp only[ig,jh,List.length_map,LIM,and_true] at hb
 generalize hB:ab6 p l=B
 obtain⟨J,hJ⟩ : ∃ J:Nat→Unit→Prop,J=fun k _=>iy (fun u=>!p u) l k:=⟨_,rfl⟩
 simp
 refine aU.cnt ah l.length (fun k _=>⟨[(8,.int .i64 k),(7,.int .i64 l.length),(1,.fn fid [] caps),(0,.vec 12 false (l.map au))],[]⟩) J () (by rw[hJ]; exact .zero) (by simp) fun k _ hk' hj=>?_
 have hw:=wrap64 (n:=(k:Int)+1) (by omega) (by omega)
 have hj' : iy (fun u=>!p u) l k:=by rw[hJ] at hj; exact hj
 by_cases g1:k<l.length
 ·have h0:=hp l[k] (List.getElem_mem g1)
  cases e1:p l[k]
  ·simp[g1,hw]
   refine ak.ret (r:=.bool (p l[k])) (by simp[hc]; exact h0) ?_
   simp[e1,hc,hk,hok,hw]
   exact⟨g1,(),by rw[hJ]; exact hj'.step g1 (by simp[e1])⟩
  ·have:=aw1 g1 hj' e1
   simp[g1,hw]
   refine ak.ret (r:=.bool (p l[k])) (by simp[hc]; exact h0) ?_
   simp[e1,hc,hk,hok,hw]
   rw[← hB,this]
 ·have:B=-1:=by rw[← hB]; exact ax9 hj' g1
  have w1:=wrap64 (n:=-1) (by omega) (by omega)
  simp[g1,this,w1]
theorem agu (l:List Ob) (fid:Nat) (caps:List PV) (p:Ob→Bool) (hc:∀ hl,og hl caps=caps) (hk:∀ hl,jm hl caps=[]) (hok:∀ hl,okL hl caps) (hp:∀ s∈l,Ret prog fid (.agg (cO s)::caps) (.bool (p s))):Ret prog M.Bn [.vec 12 false (l.map au),.fn fid [] caps] (.bool (l.any p)):=by
 refine Ret.go ah agq (by simp) fun hb w0 F0 hG=>?_
 rw[← axp]
 simp
 refine ak.ret (r:=.int .i64 (ab6 p l)) (by simp[hc]; exact ajI l fid caps p hc hk hok hp) ?_
 simp[hc,hk,hok]
end Go.Proofs.YtngjnfbngheccaaGreatDoor.Pv
set_option maxRecDepth 100000
namespace Go.Proofs.YtngjnfbngheccaaGreatDoor.Pv
open Go Go.Tidy
def Gu (a:Int) (k:Nat) (b:Bool):Int:=if b then IntKind.u8.wrap ((BitVec.ofInt IntKind.u8.bits a ||| BitVec.ofInt IntKind.u8.bits (IntKind.u8.wrap (1*2 ^ (min (k:Int).toNat IntKind.u8.bits)))).toNat:Int) else a
theorem aNx (n:Int):0≤IntKind.u8.wrap n∧IntKind.u8.wrap n≤255:=by
 simp[IntKind.wrap,IntKind.bits,IntKind.signed]
 omega
def aqh:List Bool→Nat→Int→Int
 | [],_,a=>a
 | b::l,k,a=>aqh l (k+1) (Gu a k b)
def aJ1 (t:Ty):List Bool:=[t.null,t.fls,t.tru,!t.nums.isEmpty,t.any||!t.texts.isEmpty,!t.arrays.isEmpty,!t.objects.isEmpty]
def auu (t:Ty):Int:=if t.all then 127 else aqh (aJ1 t) 0 0
theorem aEW (t:Ty):decide (auu t=0)=never t:=by
 unfold auu never bare aJ1
 generalize t.all=a,t.null=b0,t.fls=b1,t.tru=b2,t.nums.isEmpty=b3,t.any=b4,t.texts.isEmpty=b5,t.arrays.isEmpty=b6,t.objects.isEmpty=b7
 revert a b0 b1 b2 b3 b4 b5 b6 b7
 decide
set_option maxHeartbeats 4000000 in
theorem aAU (t:Ty):Ret prog M.afh [.agg (cT t)] (.int .u8 (auu t)):=by
 refine Ret.go ah aAW (by simp) fun hb w0 F0 hG=>?_
 unfold auu aJ1
 cases ha:t.all
 ·simp[ha]
  intro v
  have ne:∀ {α:Type} (l:List α),decide (0<l.length)=!l.isEmpty:=fun l=>by cases l<;>simp
  simp only[ne]
  generalize t.null=b0,t.fls=b1,t.tru=b2,(!t.nums.isEmpty)=b3,(t.any||!t.texts.isEmpty)=b4,(!t.arrays.isEmpty)=b5,(!t.objects.isEmpty)=b6
  obtain⟨J,hJ⟩ : ∃ J:Nat→Int→Prop,J=fun k a=>(0≤a∧a≤255)∧aqh [b0,b1,b2,b3,b4,b5,b6] 0 0=aqh ([b0,b1,b2,b3,b4,b5,b6].drop k) k a:=⟨_,rfl⟩
  generalize hR:aqh [b0,b1,b2,b3,b4,b5,b6] 0 0=R at *
  refine aU.cnt ah 7 (fun (k:Nat) (a:Int)=>⟨[(35,.int .i64 k),(34,.agg [.bool b0,.bool b1,.bool b2,.bool b3,.bool b4,.bool b5,.bool b6]),(3,.int .u8 a)],[]⟩) J 0 (by rw[hJ]; exact⟨by omega,by rw[← hR]; rfl⟩) (by simp) fun k a hk hj=>?_
  have hj' : (0≤a∧a≤255)∧R=aqh ([b0,b1,b2,b3,b4,b5,b6].drop k) k a:=by rw[hJ] at hj; exact hj
  obtain⟨⟨a1,a2⟩,hj'⟩:=hj'
  have hw:=wrap64 (n:=(k:Int)+1) (by omega) (by omega)
  by_cases g1:k<7
  ·have nxt:∀ (b:Bool) (r:List Bool),[b0,b1,b2,b3,b4,b5,b6].drop k=b::r→J (k+1) (Gu a k b):=fun b r e=>by
      rw[hJ]
      refine⟨?_,?_⟩
      ·unfold Gu
       split
       ·exact aNx _
       ·exact⟨a1,a2⟩
      ·rw[hj',← List.drop_drop,e]; rfl
   have hd:∀ b:Bool,[b0,b1,b2,b3,b4,b5,b6][k]? = some b→J (k+1) (Gu a k b):=fun b e=>by
    obtain⟨h1,h2⟩:=List.getElem?_eq_some_iff.1 e
    exact nxt b _ (by rw[List.drop_eq_getElem_cons h1,h2])
   have c1:k=0∨k=1∨k=2∨k=3∨k=4∨k=5∨k=6:=by omega
   rcases c1 with rfl|rfl|rfl|rfl|rfl|rfl|rfl
   ·have h:=hd b0 rfl
    have k1:=wrap64 (n:=1) (by omega) (by omega)
    simp
    refine bF.go ah ?_
    cases b0
    ·simp[Gu] at h
     simp[k1]
     exact h
    ·simp[Gu] at h
     simp[k1]
     exact h
   ·have h:=hd b1 rfl
    have k1:=wrap64 (n:=2) (by omega) (by omega)
    simp
    refine bF.go ah ?_
    cases b1
    ·simp[Gu] at h
     simp[k1]
     exact h
    ·simp[Gu] at h
     simp[k1]
     exact h
   ·have h:=hd b2 rfl
    have k1:=wrap64 (n:=3) (by omega) (by omega)
    simp
    refine bF.go ah ?_
    cases b2
    ·simp[Gu] at h
     simp[k1]
     exact h
    ·simp[Gu] at h
     simp[k1]
     exact h
   ·have h:=hd b3 rfl
    have k1:=wrap64 (n:=4) (by omega) (by omega)
    simp
    refine bF.go ah ?_
    cases b3
    ·simp[Gu] at h
     simp[k1]
     exact h
    ·simp[Gu] at h
     simp[k1]
     exact h
   ·have h:=hd b4 rfl
    have k1:=wrap64 (n:=5) (by omega) (by omega)
    simp
    refine bF.go ah ?_
    cases b4
    ·simp[Gu] at h
     simp[k1]
     exact h
    ·simp[Gu] at h
     simp[k1]
     exact h
   ·have h:=hd b5 rfl
    have k1:=wrap64 (n:=6) (by omega) (by omega)
    simp
    refine bF.go ah ?_
    cases b5
    ·simp[Gu] at h
     simp[k1]
     exact h
    ·simp[Gu] at h
     simp[k1]
     exact h
   ·have h:=hd b6 rfl
    have k1:=wrap64 (n:=7) (by omega) (by omega)
    simp
    refine bF.go ah ?_
    cases b6
    ·simp[Gu] at h
     simp[k1]
     exact h
    ·simp[Gu] at h
     simp[k1]
     exact h
  ·obtain rfl:k=7:=by omega
   have:R=a:=hj'
   simp[this]
 ·simp[ha]
end Go.Proofs.YtngjnfbngheccaaGreatDoor.Pv

/- Part 14. -/
import Derived.Test.YtfilonnphgnplaaGreatDoorA13
import Derived.Test.YtfilonnphgnplaaGreatDoorProg
import Derived.WalkKit
import Derived.WalkMore
import Derived.Below
import Derived.Shelf.Unicode.ValidAny
import Derived.Shelf.SlIter.Nil
import Derived.Shelf.SortM.Plain
import Derived.Shelf.SortM.SortNone
import Derived.Shelf.SlicesG.CompactS
import Derived.Ground.GgzProg
import Derived.Ground.SlgmProg
import Derived.Ground.SlgnProg
import Derived.Ground.NamesProg
set_option linter.unusedSimpArgs false
set_option linter.unusedVariables false
set_option maxRecDepth 100000
namespace Go.Proofs.YtfilonnphgnplaaGreatDoor.Pv
open Go Go.Tidy
theorem aMJ {NM:List S} {m:Nat} {t:Ty} (h1:ak t=true) (h2:bdT NM m t) (h3:NM.length≤34359738368):l6 t:=⟨h1,aak h3 t h1 h2⟩
def abz (F:Nat) (h:Int) (N:Ty→Ty) (NM:List S) (B:Nat):Prop:=∀ t m,ak t=true→bdT NM m t→m≤B→Ret prog F [.agg (cT t),.int .i64 h] (.agg (cT (N t)))
theorem aIO {l:List Ty} {k:Nat} (x:Ty) (hk:k<l.length):(l.take (k+1)).foldl jO x=jO ((l.take k).foldl jO x) l[k]:=by
 rw[List.take_add_one,List.getElem?_eq_getElem hk]
 simp only[Option.toList_some,List.foldl_append,List.foldl_cons,List.foldl_nil]
set_option maxHeartbeats 4000000 in
theorem aIa (h:Int) (N:Ty→Ty) (NM:List S) (B:Nat) (hN:abz M.jv h N NM B) (hNf:∀ t,ak t=true→ak (N t)=true) (h3:NM.length≤1073741824) (hM:4*(NM.length+1)≤B) (o:Ob) (ho:bf o=true) (hbo:bdO NM 4 o) :
 Ret prog M.Zq [.agg (cO o),.int .i64 h] (.agg (cO (zQ N o))):=by
 refine Ret.go ah aCp (by simp) fun hb w0 F0 hG=>?_
 have hnl:o.names.length≤NM.length:=zn (kG ho) hbo.1
 have c0:=aiz o ho (by omega)
 have hs:=UQ ho
 have hsb:=afc hbo
 have hT:zQ N o=if (jC o).names.length≤12 then jC o else jC (.mk ((jC o).names.take 12) ((jC o).fields.take 12) ((jC o).must.take 12) (N (oh ((jC o).rest::(jC o).fields.drop 12)))):=rfl
 generalize zQ N o=R at *
 generalize jC o=p at *
 obtain⟨p1,p2,p3,p4,p5,p6⟩:=dz hs
 have hpl:p.names.length≤NM.length:=zn (kG hs) hsb.1
 have hTl:=ahQ p1 p2
 simp
 intro v1 v2
 refine aj.ret c0 ?_
 by_cases h12:p.names.length≤12
 ·have h12' : (p.names.length:Int)≤12:=by omega
  rw[if_pos h12] at hT
  simp[h12',hT]
 ·have h12' : ¬ (p.names.length:Int)≤12:=by omega
  rw[if_neg h12,aHl _ p4] at hT
  simp[h12']
  intro v3
  obtain⟨J,hJ⟩ : ∃ J:Nat→Ty→Prop,J=fun k r=>r=((p.fields.drop 12).take k).foldl jO p.rest:=⟨_,rfl⟩
  refine aU.cnt ah (p.names.length-12) (fun k r=>⟨[(6,.int .i64 (12+k:Nat)),(5,.ptr (5,v3) 9 0 0),(4,.ptr (4,v2) 12 0 0),(2,.ptr (2,v1) 12 0 0),(1,.int .i64 h)],[((5,v3),some ⟨9,[cT r],false,true⟩),((4,v2),some ⟨12,[M.z4],false,true⟩),((2,v1),some ⟨12,[cO p],false,true⟩)]⟩) J p.rest (by rw[hJ]; rfl) (by simp) fun k r hk hj=>?_
  have hw:=wrap64 (n:=((12+k:Nat):Int)+1) (by omega) (by omega)
  have hj' : r=((p.fields.drop 12).take k).foldl jO p.rest:=by rw[hJ] at hj; exact hj
  have hfr:ak r=true:=by
   rw[hj']; exact am7 _ (fun t ht=>p5 t (List.mem_of_mem_drop (List.mem_of_mem_take ht))) _ p4
  have hbr:bdT NM (4*(NM.length+1)) r:=by
   rw[hj']
   have:=at7 (NM:=NM) (m:=4) ((p.fields.drop 12).take k) p.rest 4 (fun t ht=>hsb.2.1 t (List.mem_of_mem_drop (List.mem_of_mem_take ht))) hsb.2.2
   refine Ak ?_ _ this
   have:((p.fields.drop 12).take k).length≤NM.length:=by simp; omega
   omega
  obtain⟨i,hi⟩ : ∃ i,i=12+k:=⟨_,rfl⟩
  rw[← hi] at hw
  show XC _ _ ⟨[(6,.int .i64 (12+k:Nat)),(5,.ptr (5,v3) 9 0 0),(4,.ptr (4,v2) 12 0 0),(2,.ptr (2,v1) 12 0 0),(1,.int .i64 h)],[((5,v3),some ⟨9,[cT r],false,true⟩),((4,v2),some ⟨12,[M.z4],false,true⟩),((2,v1),some ⟨12,[cO p],false,true⟩)]⟩ _ _
  rw[← hi]
  by_cases g:k<p.names.length-12
  ·have g1:i<p.names.length:=by omega
   have g2:i<p.fields.length:=by omega
   have g3:k<(p.fields.drop 12).length:=by simp; omega
   have hst:=aIO p.rest g3
   rw[← hj'] at hst
   have e3:(p.fields.drop 12)[k]=p.fields[i]:=by simp[hi]
   have c1:=afT NM (ay r) r p.fields[i] _ 4 (Nat.le_refl _) hfr (p5 _ (List.getElem_mem g2)) hbr (hsb.2.1 _ (List.getElem_mem g2)) (by omega)
   simp[g1,g2]
   intros
   refine aH.ret c1 ?_
   simp[hw,g1]
   exact⟨by omega,jO r p.fields[i],by rw[hJ]; show _=_; rw[hst,e3],by simp; omega⟩
  ·have e1:r=(p.fields.drop 12).foldl jO p.rest:=by rw[hj',List.take_of_length_le (by simp; omega)]
   have g1:¬ i<p.names.length:=by omega
   rw[← e1] at hT
   have c2:=hN r _ hfr hbr hM
   simp[g1]
   refine aj.ret c2 ?_
   simp
   intro v4
   clear hj hj' hJ J hw
   have hmk:Ob.mk (p.names.take 12) (p.fields.take 12) (p.must.take 12) (N r)=xQ ((jD p).take 12) (N r):=by
    obtain⟨t1,t2,t3⟩:=adq p1 p2
    unfold xQ
    rw[List.map_take,List.map_take,List.map_take,t1,t2,t3]
   rw[hmk] at hT
   obtain⟨J,hJ⟩ : ∃ J:Nat→List (S × Ty × Bool)→Prop,J=fun k l=>l=(jD p).take k:=⟨_,rfl⟩
   refine aU.xG ah [(1000007,1,1000),(2000007,9,1001),(3000007,1,1002)] rfl 12 (fun v k l=>⟨[(8,.int .i64 k),(7,.ptr (7,v4) 12 0 0),(4,.ptr (4,v2) 12 0 0),(2,.ptr (2,v1) 12 0 0)],
    [((7,v4),some ⟨12,[aom (.own (1000,v) 1 0 l.length false) (.own (1001,v) 9 0 l.length false) (.own (1002,v) 1 0 l.length false) (N r)],false,true⟩),((1000,v),some ⟨1,tN l,false,false⟩),((1001,v),some ⟨9,tF l,false,false⟩),((1002,v),some ⟨1,tM l,false,false⟩),((4,v2),some ⟨12,[M.z4],false,true⟩),((2,v1),some ⟨12,[cO p],false,true⟩)]⟩) J [] (by rw[hJ]; rfl) (by simp) fun v k l _ hk hj=>?_
   have hw:=wrap64 (n:=(k:Int)+1) (by omega) (by omega)
   have hj' : l=(jD p).take k:=by rw[hJ] at hj; exact hj
   have hll:l.length=k:=by rw[hj']; simp; omega
   by_cases g:k<12
   ·have g2:k<p.names.length:=by omega
    have g3:k<p.fields.length:=by omega
    have g4:k<p.must.length:=by omega
    have hs':=anp g2 g3 g4 (by omega)
    have hst:(jD p).take (k+1)=l++[(p.names[k],p.fields[k],p.must[k])]:=by
     rw[List.take_add_one,List.getElem?_eq_getElem (by omega),hs',hj']; rfl
    have g' : (k:Int)<12:=by omega
    simp[g',g2,g3,g4]
    exact fun _=>⟨by omega,fun _=>⟨by omega,fun _=>⟨by omega,g,l++[(p.names[k],p.fields[k],p.must[k])],by rw[hJ]; exact hst.symm,fun _=>by simp[hw]⟩⟩⟩
   ·have hk12:k=12:=by omega
    subst hk12
    have hfo:bf (xQ l (N r))=true:=by rw[hj']; exact abe hs (List.take_sublist _ _) (hNf r hfr)
    have c3:=aiz (xQ l (N r)) hfo (by simp[xQ]; omega)
    rw[← hj'] at hT
    rw[← hT] at c3
    have c4:Ret prog M.Kg [.agg [.vec 1 false (tN l),.vec 9 false (tF l),.vec 1 false (tM l),.bool (N r).all,.bool (N r).null,.bool (N r).fls,.bool (N r).tru,.vec 2 false ((N r).nums.map dH),.bool (N r).any,.vec 1 false ((N r).texts.map encStr),.vec 11 false ((N r).arrays.map dh),.vec 12 false ((N r).objects.map av)]] (.agg (cO R)):=c3
    simp
    refine aj.ret (r:=.agg (cO R)) (by simpa using c4) ?_
    simp
end Go.Proofs.YtfilonnphgnplaaGreatDoor.Pv
set_option maxRecDepth 100000
namespace Go.Proofs.YtfilonnphgnplaaGreatDoor.Pv
open Go Go.Tidy
set_option maxHeartbeats 4000000 in
theorem amA (h:Int) (N:Ty→Ty) (NM:List S) (B m:Nat) (hN:abz M.jv h N NM B) (hNf:∀ t,ak t=true→ak (N t)=true) (hNn:∀ t,ak t=true→never (N t)=never t) (hNb:∀ t m,bdT NM m t→bdT NM 4 (N t)) (h3:NM.length≤1073741824) (hM:4*(NM.length+1)≤B) (o:Ob) (ho:bf o=true) (hbo:bdO NM m o) (hm:m≤B) :
 Ret prog M.ql [.agg (cO o),.int .i64 h] (.agg (cO (gU N o))):=by
 refine Ret.go ah atu (by simp) fun hb w0 F0 hG=>?_
 obtain⟨o1,o2,o3,o4,o5,o6⟩:=dz ho
 have hT:gU N o=zQ N (.mk o.names (o.fields.map N) o.must (N o.rest)):=rfl
 have hfo:bf (.mk o.names (o.fields.map N) o.must (N o.rest))=true:=by
  refine JQ (by simp[o1]) o2 o3 (hNf _ o4) (fun f hf=>?_) (fun p hp hm=>?_)
  ·obtain⟨t,ht,rfl⟩:=List.mem_map.1 hf
   exact hNf t (o5 t ht)
  ·simp only[Ob.qL,Ob.VW] at hp
   have:(o.fields.map N).zip o.must=(o.fields.zip o.must).map fun p=>(N p.1,p.2):=by
    rw[← List.map_id o.must,List.zip_map]; simp
   rw[this] at hp
   obtain⟨x,hx,rfl⟩:=List.mem_map.1 hp
   rw[hNn _ (o5 _ (List.of_mem_zip hx).1)]
   exact o6 x hx hm
 have hbo' : bdO NM 4 (.mk o.names (o.fields.map N) o.must (N o.rest)):=⟨hbo.1,fun f hf=>by
  obtain⟨t,ht,rfl⟩:=List.mem_map.1 hf
  exact hNb t m (hbo.2.1 t ht),hNb _ m hbo.2.2⟩
 have c1:=aIa h N NM B hN hNf h3 hM _ hfo hbo'
 rw[← hT] at c1
 generalize gU N o=R at *
 have hnl:o.names.length≤NM.length:=zn (kG ho) hbo.1
 simp
 intros
 rename_i v0 v1 v2
 refine aH.ret (hN o.rest m o4 hbo.2.2 hm) ?_
 simp
 generalize N o.rest=r at *
 obtain⟨J,hJ⟩ : ∃ J:Nat→List Ty→Prop,J=fun k fs=>fs=(o.fields.take k).map N:=⟨_,rfl⟩
 refine aU.xG ah [(2000005,9,1001)] rfl o.fields.length (fun v k fs=>⟨[(6,.int .i64 k),(5,.ptr (5,v2) 12 0 0),(4,.ptr (4,v1) 12 0 0),(2,.ptr (2,v0) 12 0 0),(1,.int .i64 h)],
  [((5,v2),some ⟨12,[aom (.vec 1 false (o.names.map encStr)) (.own (1001,v) 9 0 fs.length false) (.vec 1 false (o.must.map jH)) r],false,true⟩),((1001,v),some ⟨9,fs.map eU,false,false⟩),((4,v1),some ⟨12,[M.z4],false,true⟩),((2,v0),some ⟨12,[cO o],false,true⟩)]⟩) J [] (by rw[hJ]; rfl) (by simp) fun v k fs _ hk hj=>?_
 have hw:=wrap64 (n:=(k:Int)+1) (by omega) (by omega)
 have hj' : fs=(o.fields.take k).map N:=by rw[hJ] at hj; exact hj
 have hll:fs.length=k:=by rw[hj']; simp; omega
 by_cases g:k<o.fields.length
 ·have hst:=qd N g
  rw[← hj'] at hst
  have c2:=hN o.fields[k] m (o5 _ (List.getElem_mem g)) (hbo.2.1 _ (List.getElem_mem g)) hm
  simp[g]
  intros
  refine aH.ret c2 ?_
  simp[hw,g]
  exact⟨by omega,fs++[N o.fields[k]],by rw[hJ]; exact hst.symm,fun _=>by simp⟩
 ·have e1:fs=o.fields.map N:=by rw[hj',List.take_of_length_le (by omega)]
  rw[← e1] at c1
  have c4:Ret prog M.Zq [.agg [.vec 1 false (o.names.map encStr),.vec 9 false (fs.map eU),.vec 1 false (o.must.map jH),.bool r.all,.bool r.null,.bool r.fls,.bool r.tru,.vec 2 false (r.nums.map dH),.bool r.any,.vec 1 false (r.texts.map encStr),.vec 11 false (r.arrays.map dh),.vec 12 false (r.objects.map av)],.int .i64 h] (.agg (cO R)):=c1
  simp[g]
  refine aj.ret (r:=.agg (cO R)) (by simpa using c4) ?_
  simp
theorem aHS {l:List Ob} {k:Nat} (hk:k<l.length):jg (l.take (k+1))=Vk l[k] (jg (l.take k)):=by
 unfold jg
 rw[List.take_add_one,List.getElem?_eq_getElem hk]
 simp only[Option.toList_some,List.foldl_append,List.foldl_cons,List.foldl_nil]
set_option maxHeartbeats 4000000 in
theorem ajL (h:Int) (N:Ty→Ty) (NM:List S) (B:Nat) (l:List Ob) (hf:∀ o∈l,bf o=true) (hb4:∀ o∈l,bdO NM 4 o) (h3:NM.length≤1073741824) (hl:l.length≤2147483648)
 (hW:4<(dN [] (jg l)).length→Ret prog M.ql [.agg (cO (pq ((dN [] (jg l)).drop 3))),.int .i64 h] (.agg (cO (gU N (pq ((dN [] (jg l)).drop 3))))))
 (hO:4<(dN [] (jg l)).length→iQ prog M.nG [.vec 12 false (((dN [] (jg l)).take 3++[gU N (pq ((dN [] (jg l)).drop 3))]).map av),.int .i64 h] 12 ((dN [] (jg ((dN [] (jg l)).take 3++[gU N (pq ((dN [] (jg l)).drop 3))]))).map av)) :
 iQ prog M.nG [.vec 12 false (l.map av),.int .i64 h] 12 ((l8 N l).map av):=by
 refine iQ.go ah apB (by simp) fun hb w0 F0 hG=>?_
 have hT:l8 N l=if (dN [] (jg l)).length≤4 then dN [] (jg l) else dN [] (jg ((dN [] (jg l)).take 3++[gU N (pq ((dN [] (jg l)).drop 3))])):=rfl
 have hr:∀ o∈jg l,o∈l:=(qJ l).1
 have hrl:=(qJ l).2.1
 have hq:∀ x∈dN [] (jg l),x∈l:=fun x hx=>(wZ _ _ x hx).elim (fun h=>by cases h) (hr x)
 have hql:(dN [] (jg l)).length≤l.length:=by have:=(Bq (jg l) []).1; simp at this; omega
 have c1:=awe (jg l) (fun o ho=>aMJ (oH (hf o (hr o ho))) (aoc (by omega) (hb4 o (hr o ho))) (by omega)) (by omega)
 generalize l8 N l=R at *
 simp
 intro v0
 obtain⟨J,hJ⟩ : ∃ J:Nat→List Ob→Prop,J=fun k acc=>acc=jg (l.take k):=⟨_,rfl⟩
 refine aU.xG ah [(5,12,1005)] rfl l.length (fun v k (acc:List Ob)=>⟨[(6,.int .i64 k),(5,.own (1005,v) 12 0 acc.length false),(1,.int .i64 h),(0,.vec 12 false (l.map av))],[((1005,v),some ⟨12,acc.map av,false,false⟩)]⟩) J [] (by rw[hJ]; rfl) (by simp) fun v k acc _ hk hj=>?_
 have hw:=wrap64 (n:=(k:Int)+1) (by omega) (by omega)
 have hj' : acc=jg (l.take k):=by rw[hJ] at hj; exact hj
 by_cases g:k<l.length
 ·have hst:=aHS g
  rw[← hj'] at hst
  have hal:acc.length≤k:=by rw[hj']; have:=(qJ (l.take k)).2.1; simp at this; omega
  have c2:=aEf acc l[k] (fun x hx=>hf x (List.mem_of_mem_take ((qJ (l.take k)).1 x (by rw[← hj']; exact hx)))) (hf _ (List.getElem_mem g)) (by omega)
  simp[g]
  refine aj.ru (by simpa using c2) ?_
  simp[g,hw]
  exact⟨Vk l[k] acc,by rw[hJ]; exact hst.symm,fun _=>by simp⟩
 ·have e1:acc=jg l:=by rw[hj',List.take_of_length_le (by omega)]
  rw[← e1] at c1 hT hW hO hql hq
  simp[g]
  refine aj.ru (by simpa using c1) ?_
  generalize dN [] acc=row at *
  simp
  intro v1
  by_cases g4:row.length≤4
  ·have g4' : (row.length:Int)≤4:=by omega
   rw[if_pos g4] at hT
   simp[g4',hT]
   intro _; omega
  ·have g4' : ¬ (row.length:Int)≤4:=by omega
   rw[if_neg g4] at hT
   have hO':=hO (by omega)
   have hW':=hW (by omega)
   have c3:=amD NM 4 (row.drop 3) (fun o ho=>hf o (hq o (List.mem_of_mem_drop ho))) (fun o ho=>hb4 o (hq o (List.mem_of_mem_drop ho))) (by omega) (by simp; omega) (by omega)
   have e3:((row.map av).drop 3).take (row.length-3)=(row.drop 3).map av:=by rw[List.take_of_length_le (by simp),List.map_drop]
   simp[g4']
   intro _ v2
   refine⟨by omega,fun v3=>⟨⟨by omega,by omega⟩,by omega,?_⟩⟩
   refine aj.ret (r:=.agg (cO (pq (row.drop 3)))) (by simpa[e3] using c3) ?_
   have m3:min 3 row.length=3:=by omega
   have t3:((row.map av).take 3).length=3:=by simp; omega
   generalize gU N (pq (row.drop 3))=X at *
   simp
   refine⟨by omega,?_⟩
   refine aj.ret hW' ?_
   simp[m3]
   intros
   have e4:(((row.map av).take 3).take 3).take 3++[cO X]=(row.take 3++[X]).map av:=by simp[List.take_take]
   have e5:List.take 4 (((row.map av).take 3).take 3++[cO X])=(row.take 3++[X]).map av:=by
    rw[List.take_of_length_le (by simp; omega),List.take_take]; simp
   rw[← hT,← e5] at hO'
   refine aj.ru (esz:=12) (xs:=R.map av) (by simp; exact hO') ?_
   simp[m3]
end Go.Proofs.YtfilonnphgnplaaGreatDoor.Pv
set_option maxRecDepth 100000
namespace Go.Proofs.YtfilonnphgnplaaGreatDoor.Pv
open Go Go.Tidy
abbrev acw (t:Ty) (any:Bool) (texts arrs objs:PV):List PV:=[.bool false,.bool t.null,.bool t.fls,.bool t.tru,.vec 2 false (t.nums.map dH),.bool any,texts,arrs,objs]
theorem aen (h:Int) (t:Ty) (hz:t.all=true∨(h<1∧(t.arrays≠[]∨t.objects≠[]))):Ret prog M.jv [.agg (cT t),.int .i64 h] (.agg (cT dn)):=by
 refine Ret.go ah agh (by simp) fun hb w0 F0 hG=>?_
 cases e0:t.all
 ·obtain⟨h1,h2⟩ : h<1∧(t.arrays≠[]∨t.objects≠[]):=by simpa[e0] using hz
  by_cases ha:t.arrays=[]
  ·have hl:=List.length_pos_iff.2 (h2.resolve_left (fun h=>h ha))
   simp[e0,h1,ha,hl]
   intros
   refine aj.ret vv ?_
   simp[dn]
  ·have hl:=List.length_pos_iff.2 ha
   simp[e0,h1,ha,hl]
   intros
   refine aj.ret vv ?_
   simp[dn]
 ·simp[e0]
  intros
  refine aj.ret vv ?_
  simp[dn]
section
variable {w0:World} {F0:Nat→Prop} {hG:GOk prog w0 F0}
set_option maxHeartbeats 4000000 in
theorem aHR (h:Int) (t:Ty) (v2 v4 v5:Nat) (any:Bool) (texts:List S) (az:List Arr) (os:List Ob) (wf:Ob→Ob) (hh:IntKind.i64.wrap (h-1)=h-1) (hf:ak (.mk false t.null t.fls t.tru t.nums any texts az os)=true) (hl:t.objects.length≤34359738368)
 (hW:∀ o∈t.objects,Ret prog M.ql [.agg (cO o),.int .i64 (h-1)] (.agg (cO (wf o))))
 (hO:iQ prog M.nG [.vec 12 false ((t.objects.map wf).map av),.int .i64 (h-1)] 12 (os.map av)) :
 ∀ st:St,(∀ v,LS (lU [(7,12,1007)] v st) ⟨[(8,.int .i64 0),(7,.own (1007,v) 12 0 0 false),(5,.ptr (5,v5) 9 0 0),(4,.ptr (4,v4) 9 0 0),(2,.ptr (2,v2) 9 0 0),(1,.int .i64 h)],[((1007,v),some ⟨12,[],false,false⟩),((5,v5),some ⟨9,[acw t any (.vec 1 false (texts.map encStr)) (.vec 11 false (az.map dh)) (.vec 12 true [])],false,true⟩),((4,v4),some ⟨9,[M.z1],false,true⟩),((2,v2),some ⟨9,[cT t],false,true⟩)]⟩) →
 aU ⟨prog,w0,F0,112,[],0,hG⟩ (.loop M.aeX) st [.bk 2,.sq M.aeB]
  (uw M.Ng (.agg (cT (if jm (.mk false t.null t.fls t.tru t.nums any texts az os) laidAll then dn else .mk false t.null t.fls t.tru t.nums any texts az os)))):=by
 have cs:=aeF (.mk false t.null t.fls t.tru t.nums any texts az os) laidAll hf afU.1
 obtain⟨R,hR⟩ : ∃ R,R=(if jm (.mk false t.null t.fls t.tru t.nums any texts az os) laidAll then dn else Ty.mk false t.null t.fls t.tru t.nums any texts az os):=⟨_,rfl⟩
 rw[← hR]
 intro st hst0
 obtain⟨J,hJ⟩ : ∃ J:Nat→List Ob→Prop,J=fun k acc=>acc=(t.objects.take k).map wf:=⟨_,rfl⟩
 refine aU.xG ah [(7,12,1007)] rfl t.objects.length (fun v k (acc:List Ob)=>⟨[(8,.int .i64 k),(7,.own (1007,v) 12 0 acc.length false),(5,.ptr (5,v5) 9 0 0),(4,.ptr (4,v4) 9 0 0),(2,.ptr (2,v2) 9 0 0),(1,.int .i64 h)],[((1007,v),some ⟨12,acc.map av,false,false⟩),((5,v5),some ⟨9,[acw t any (.vec 1 false (texts.map encStr)) (.vec 11 false (az.map dh)) (.vec 12 true [])],false,true⟩),((4,v4),some ⟨9,[M.z1],false,true⟩),((2,v2),some ⟨9,[cT t],false,true⟩)]⟩) J [] (by rw[hJ]; rfl) (by simpa using hst0) fun v k acc _ hk hj=>?_
 have hw:=wrap64 (n:=(k:Int)+1) (by omega) (by omega)
 have hj' : acc=(t.objects.take k).map wf:=by rw[hJ] at hj; exact hj
 have hal:acc.length=k:=by rw[hj']; simp; omega
 by_cases g:k<t.objects.length
 ·have hst:=qd wf g
  rw[← hj'] at hst
  simp[g,hh]
  refine aj.ret (hW _ (List.getElem_mem g)) ?_
  simp[g,hw]
  exact fun _=>⟨by omega,acc++[wf t.objects[k]],by rw[hJ]; exact hst.symm,fun _=>by simp⟩
 ·have e1:acc=t.objects.map wf:=by rw[hj',List.take_of_length_le (by omega)]
  rw[← e1] at hO
  simp[g,hh]
  refine aj.ru (by simpa using hO) ?_
  simp
  intro v8 v9
  refine aH.ret vv ?_
  simp
  refine aH.ret (akp dn) ?_
  simp
  refine aH.ret (r:=.bool (jm (.mk false t.null t.fls t.tru t.nums any texts az os) laidAll)) (by simp; exact cs) ?_
  cases hs:jm (.mk false t.null t.fls t.tru t.nums any texts az os) laidAll<;>rw[hs] at hR
  ·simp[hR]
  ·simp
   refine aj.ret vv ?_
   simp[hR,dn]
set_option maxHeartbeats 4000000 in
theorem aHk (h:Int) (t:Ty) (v2 v4 v5:Nat) (any:Bool) (texts:List S) (os:List Ob) (wf:Ob→Ob) (n:Ty→Ty) (hh:IntKind.i64.wrap (h-1)=h-1) (hf:ak (.mk false t.null t.fls t.tru t.nums any texts (t.arrays.map fun a=>.mk (n a.item) a.min a.max) os)=true) (hl:t.objects.length≤34359738368)
 (ha:t.arrays.length≤1) (hA:∀ a∈t.arrays,Ret prog M.jv [.agg (cT a.item),.int .i64 (h-1)] (.agg (cT (n a.item))))
 (hW:∀ o∈t.objects,Ret prog M.ql [.agg (cO o),.int .i64 (h-1)] (.agg (cO (wf o))))
 (hO:iQ prog M.nG [.vec 12 false ((t.objects.map wf).map av),.int .i64 (h-1)] 12 (os.map av)) :
 XC ⟨prog,w0,F0,112,[],0,hG⟩ M.Vv ⟨[(5,.ptr (5,v5) 9 0 0),(4,.ptr (4,v4) 9 0 0),(2,.ptr (2,v2) 9 0 0),(1,.int .i64 h)],[((5,v5),some ⟨9,[acw t any (.vec 1 false (texts.map encStr)) (.vec 11 true []) (.vec 12 true [])],false,true⟩),((4,v4),some ⟨9,[M.z1],false,true⟩),((2,v2),some ⟨9,[cT t],false,true⟩)]⟩ []
  (uw M.Ng (.agg (cT (if jm (.mk false t.null t.fls t.tru t.nums any texts (t.arrays.map fun a=>.mk (n a.item) a.min a.max) os) laidAll then dn else .mk false t.null t.fls t.tru t.nums any texts (t.arrays.map fun a=>.mk (n a.item) a.min a.max) os)))):=by
 have fin:=aHR (w0:=w0) (F0:=F0) (hG:=hG) h t v2 v4 v5 any texts _ os wf hh hf hl hW hO
 generalize hAs:(t.arrays.map fun a=>Arr.mk (n a.item) a.min a.max)=az at *
 generalize (if jm (.mk false t.null t.fls t.tru t.nums any texts az os) laidAll then dn else Ty.mk false t.null t.fls t.tru t.nums any texts az os)=R at *
 simp
 obtain⟨J,hJ⟩ : ∃ J:Nat→List Arr→Prop,J=fun k acc=>acc=(t.arrays.take k).map fun a=>.mk (n a.item) a.min a.max:=⟨_,rfl⟩
 refine aU.xG ah [(8000005,11,1008)] rfl t.arrays.length (fun v k (acc:List Arr)=>⟨[(6,.int .i64 k),(5,.ptr (5,v5) 9 0 0),(4,.ptr (4,v4) 9 0 0),(2,.ptr (2,v2) 9 0 0),(1,.int .i64 h)],[((5,v5),some ⟨9,[acw t any (.vec 1 false (texts.map encStr)) (.own (1008,v) 11 0 acc.length false) (.vec 12 true [])],false,true⟩),((1008,v),some ⟨11,acc.map dh,false,false⟩),((4,v4),some ⟨9,[M.z1],false,true⟩),((2,v2),some ⟨9,[cT t],false,true⟩)]⟩) J [] (by rw[hJ]; rfl) (by simp) fun v k acc _ hk hj=>?_
 have hw:=wrap64 (n:=(k:Int)+1) (by omega) (by omega)
 have hj' : acc=(t.arrays.take k).map fun a=>.mk (n a.item) a.min a.max:=by rw[hJ] at hj; exact hj
 have hal:acc.length=k:=by rw[hj']; simp; omega
 by_cases g:k<t.arrays.length
 ·have hst:=qd (fun a:Arr=>Arr.mk (n a.item) a.min a.max) g
  rw[← hj'] at hst
  simp[g,hh]
  intros
  refine aH.ret (hA _ (List.getElem_mem g)) ?_
  simp[g,hw]
  exact⟨by omega,acc++[.mk (n t.arrays[k].item) t.arrays[k].min t.arrays[k].max],by rw[hJ]; exact hst.symm,fun _=>by simp; exact aK _ _⟩
 ·have e1:acc=az:=by rw[hj',List.take_of_length_le (by omega),hAs]
  simp[g]
  exact fun v0=>fin _ fun v=>by simp[e1]
set_option maxHeartbeats 4000000 in
theorem am9 (h:Int) (t:Ty) (os:List Ob) (wf:Ob→Ob) (n:Ty→Ty) (h1 : -9223372036854775807≤h) (h2:h≤9223372036854775807) (e0:t.all=false) (e1:h<1→t.arrays=[]∧t.objects=[])
 (hf:ak (.mk false t.null t.fls t.tru t.nums (t.any||decide (16<t.texts.length)) (if 16<t.texts.length then [] else t.texts) (t.arrays.map fun a=>.mk (n a.item) a.min a.max) os)=true) (hl:t.objects.length≤34359738368) (ha:t.arrays.length≤1)
 (hA:∀ a∈t.arrays,Ret prog M.jv [.agg (cT a.item),.int .i64 (h-1)] (.agg (cT (n a.item))))
 (hW:∀ o∈t.objects,Ret prog M.ql [.agg (cO o),.int .i64 (h-1)] (.agg (cO (wf o))))
 (hO:iQ prog M.nG [.vec 12 false ((t.objects.map wf).map av),.int .i64 (h-1)] 12 (os.map av)) :
 Ret prog M.jv [.agg (cT t),.int .i64 h] (.agg (cT (QY t (t.arrays.map fun a=>.mk (n a.item) a.min a.max) os))):=by
 refine Ret.go ah agh (by simp) fun hb w0 F0 hG=>?_
 have hh:=wrap64 (n:=h-1) (by omega) (by omega)
 have fin:=fun v2 v4 v5=>aHk (w0:=w0) (F0:=F0) (hG:=hG) h t v2 v4 v5 _ _ os wf n hh hf hl ha hA hW hO
 have hR:QY t (t.arrays.map fun a=>.mk (n a.item) a.min a.max) os=(if jm (.mk false t.null t.fls t.tru t.nums (t.any||decide (16<t.texts.length)) (if 16<t.texts.length then [] else t.texts) (t.arrays.map fun a=>.mk (n a.item) a.min a.max) os) laidAll then dn else Ty.mk false t.null t.fls t.tru t.nums (t.any||decide (16<t.texts.length)) (if 16<t.texts.length then [] else t.texts) (t.arrays.map fun a=>.mk (n a.item) a.min a.max) os):=rfl
 rw[← hR] at fin
 generalize QY t (t.arrays.map fun a=>Arr.mk (n a.item) a.min a.max) os=R at *
 have key:∀ v2 v4 v5 (st:St),(∀ v,LS (lU [] v st) ⟨[(5,.ptr (5,v5) 9 0 0),(4,.ptr (4,v4) 9 0 0),(2,.ptr (2,v2) 9 0 0),(1,.int .i64 h)],[((5,v5),some ⟨9,[acw t t.any (.vec 1 false (t.texts.map encStr)) (.vec 11 true []) (.vec 12 true [])],false,true⟩),((4,v4),some ⟨9,[M.z1],false,true⟩),((2,v2),some ⟨9,[cT t],false,true⟩)]⟩) →
  bQ ⟨prog,w0,F0,112,[],0,hG⟩ M.adQ st [.sq M.Vv] (uw M.Ng (.agg (cT R))):=fun v2 v4 v5 st hst=>by
  refine bQ.anew [] rfl _ hst fun _ _=>?_
  refine bQ.ah6 ah [] rfl (fun _=>⟨[(5,.ptr (5,v5) 9 0 0),(4,.ptr (4,v4) 9 0 0),(2,.ptr (2,v2) 9 0 0),(1,.int .i64 h)],[((5,v5),some ⟨9,[acw t (t.any||decide (16<t.texts.length)) (.vec 1 false ((if 16<t.texts.length then [] else t.texts).map encStr)) (.vec 11 true []) (.vec 12 true [])],false,true⟩),((4,v4),some ⟨9,[M.z1],false,true⟩),((2,v2),some ⟨9,[cT t],false,true⟩)]⟩) ?_ fun _ _=>by rw[ahI]; exact fin v2 v4 v5
  by_cases h16:16<t.texts.length
  ·have h16' : (16:Int)<t.texts.length:=by omega
   simp[h16,h16']
  ·have h16' : ¬ (16:Int)<t.texts.length:=by omega
   simp[h16,h16']
 by_cases hz:h<1
 ·obtain⟨z1,z2⟩:=e1 hz
  simp[e0,hz,z1,z2]
  exact fun v2 v4 v5=>key v2 v4 v5 _ fun v=>by simp[z1,z2]
 ·simp[e0,hz]
  exact fun v2 v4 v5=>key v2 v4 v5 _ fun v=>by simp
end
end Go.Proofs.YtfilonnphgnplaaGreatDoor.Pv
set_option maxRecDepth 100000
namespace Go.Proofs.YtfilonnphgnplaaGreatDoor.Pv
open Go Go.Tidy
theorem aiK (h:Int) (N:Ty→Ty) (NM:List S) (l:List Ob) (hf:∀ o∈l,bf o=true) (hb4:∀ o∈l,bdO NM 4 o) (h3:NM.length≤1073741824) (hl:l.length≤4):iQ prog M.nG [.vec 12 false (l.map av),.int .i64 h] 12 ((dN [] (jg l)).map av):=by
 have h4:(dN [] (jg l)).length≤4:=by
  have h1:=(Bq (jg l) []).1
  have h2:=(qJ l).2.1
  simp at h1; omega
 have e:l8 N l=dN [] (jg l):=if_pos h4
 have:=ajL h N NM 0 l hf hb4 h3 (by omega) (fun h=>absurd h (by omega)) (fun h=>absurd h (by omega))
 rw[e] at this
 exact this
theorem aEw (h:Int) (N:Ty→Ty) (NM:List S) (B:Nat) (hN:abz M.jv h N NM B) (hNf:∀ t,ak t=true→ak (N t)=true) (hNn:∀ t,ak t=true→never (N t)=never t) (hNb:∀ t m,bdT NM m t→bdT NM 4 (N t)) (h3:NM.length≤1073741824) (hM:4*(NM.length+1)≤B)
 (l:List Ob) (hf:∀ o∈l,bf o=true) (hb4:∀ o∈l,bdO NM 4 o) (hl:l.length≤2147483648) (hB:4*l.length≤B):iQ prog M.nG [.vec 12 false (l.map av),.int .i64 h] 12 ((l8 N l).map av):=by
 have hq:∀ x∈dN [] (jg l),x∈l:=fun x hx=>(wZ _ _ x hx).elim (fun h=>by cases h) ((qJ l).1 x)
 have hql:(dN [] (jg l)).length≤l.length:=by
  have h1:=(Bq (jg l) []).1
  have h2:=(qJ l).2.1
  simp at h1; omega
 have hd:∀ x∈(dN [] (jg l)).drop 3,x∈l:=fun x hx=>hq x (List.mem_of_mem_drop hx)
 refine ajL h N NM B l hf hb4 h3 hl (fun h4=>?_) (fun h4=>?_)
 ·have hne:(dN [] (jg l)).drop 3≠[]:=fun e=>by have:=congrArg List.length e; simp at this; omega
  refine amA h N NM B _ hN hNf hNn hNb h3 hM _ (Uh (fun o ho=>hf o (hd o ho)) hne) (agY fun o ho=>hb4 o (hd o ho)) ?_
  simp; omega
 ·have hne:(dN [] (jg l)).drop 3≠[]:=fun e=>by have:=congrArg List.length e; simp at this; omega
  refine aiK h N NM _ (fun o ho=>?_) (fun o ho=>?_) h3 (by simp; omega)
  ·rcases List.mem_append.1 ho with ho|ho
   ·exact hf o (hq o (List.mem_of_mem_take ho))
   ·rw[List.mem_singleton.1 ho]
    exact zl hNf hNn (Uh (fun o ho=>hf o (hd o ho)) hne)
  ·rcases List.mem_append.1 ho with ho|ho
   ·exact hb4 o (hq o (List.mem_of_mem_take ho))
   ·rw[List.mem_singleton.1 ho]
    exact QL hNb (agY fun o ho=>hb4 o (hd o ho))
theorem ady {t:Ty} (ht:ak t=true) {az:List Arr} {os:List Ob} (h1:az.length≤1) (h2:∀ a∈az,iw a=true) (h3:∀ o∈os,bf o=true):ak (.mk false t.null t.fls t.tru t.nums (t.any||decide (16<t.texts.length)) (if 16<t.texts.length then [] else t.texts) az os)=true:=by
 obtain⟨t1,t2,t3,t4,t5,t6,t7,t8⟩:=cu ht
 refine UW (by simp) ?_ (fun h=>?_) t4 t5 h1 h2 h3
 ·simp only[Ty.rU]
  split
  ·rfl
  ·exact t2
 ·simp only[Ty.any_mk,Ty.rU] at h ⊢
  split
  ·rfl
  ·rename_i hn
   exact t3 (by simpa[hn] using h)
def ahL (NM:List S) (h:Nat):Nat:=4*(NM.length+1)*4 ^ (8-h)
theorem aHd (NM:List S) {h:Nat} (hh:h<8):ahL NM h=4*ahL NM (h+1):=by
 unfold ahL
 have:8-h=(8-(h+1))+1:=by omega
 rw[this,Nat.pow_succ,← Nat.mul_assoc,Nat.mul_comm]
theorem aFq (NM:List S) (h:Nat):4*(NM.length+1)≤ahL NM h:=Nat.le_mul_of_pos_right _ (Nat.pow_pos (by omega))
theorem aLD (NM:List S) (hn:NM.length≤20000) {h:Nat} (hh:1≤h):ahL NM h≤2147483648:=by
 unfold ahL
 have h1:4 ^ (8-h)≤4 ^ 7:=Nat.pow_le_pow_right (by omega) (by omega)
 calc 4*(NM.length+1)*4 ^ (8-h)≤80004*4 ^ 7:=Nat.mul_le_mul (by omega) h1
  _≤2147483648:=by decide
theorem atx (NM:List S) (hn:NM.length≤20000):∀ h:Nat,h≤8→abz M.jv h (bG h) NM (ahL NM h):=by
 intro h
 induction h with
 | zero =>
   intro _ t m ht hb hm
   rw[zw]
   split
   ·rename_i hc
    refine aen _ t ?_
    simp only[Bool.or_eq_true,Bool.not_eq_true',List.isEmpty_eq_false_iff] at hc
    rcases hc with (hc|hc)|hc
    ·exact .inl hc
    ·exact .inr ⟨by simp,.inl hc⟩
    ·exact .inr ⟨by simp,.inr hc⟩
   ·rename_i hc
    simp only[Bool.or_eq_true,Bool.not_eq_true',not_or,Bool.not_eq_true,Bool.not_eq_false,List.isEmpty_iff,List.isEmpty_eq_false_iff,Decidable.not_not,ne_eq] at hc
    obtain⟨⟨e0,ea⟩,eo⟩:=hc
    have:=am9 ((0:Nat):Int) t [] id id (by simp) (by simp) e0 (fun _=>⟨ea,eo⟩) (by rw[ea]; exact ady ht (by simp) (by simp) (by simp)) (by rw[eo]; simp) (by rw[ea]; simp) (by rw[ea]; simp) (by rw[eo]; simp) (by
     rw[eo]
     have:=aiK (((0:Nat):Int)-1) id NM [] (by simp) (by simp) (by omega) (by simp)
     simpa[jg,dN] using this)
    rw[ea] at this
    exact this
 | succ h ih =>
   intro h8 t m ht hb hm
   have ih':=ih (by omega)
   have hcs:=aHd NM (h:=h) (by omega)
   have hcg:=aFq NM h
   have hcl:=aLD NM hn (h:=h+1) (by omega)
   rw[uM]
   split
   ·rename_i hc
    exact aen _ t (.inl hc)
   ·rename_i hc
    obtain⟨t1,t2,t3,t4,t5,t6,t7,t8⟩:=cu ht
    have hbi:=mH.1 hb
    have eh:(((h+1:Nat):Int)-1)=(h:Int):=by omega
    have hNn:∀ t,ak t=true→never (bG h t)=never t:=fun t ht=>acE h t ht
    have hW:∀ o∈t.objects,Ret prog M.ql [.agg (cO o),.int .i64 h] (.agg (cO (gU (bG h) o))):=fun o ho =>
     amA h (bG h) NM (ahL NM h) m ih' (ko h) hNn (Av h) (by omega) hcg o (t8 o ho) (hbi.2.2.2 o ho) (by omega)
    have hfm:∀ o∈t.objects.map (gU (bG h)),bf o=true:=fun o ho=>by
     obtain⟨x,hx,rfl⟩:=List.mem_map.1 ho
     exact zl (ko h) hNn (t8 x hx)
    have hbm:∀ o∈t.objects.map (gU (bG h)),bdO NM 4 o:=fun o ho=>by
     obtain⟨x,hx,rfl⟩:=List.mem_map.1 ho
     exact QL (Av h) (hbi.2.2.2 x hx)
    have hO:=aEw h (bG h) NM (ahL NM h) ih' (ko h) hNn (Av h) (by omega) hcg (t.objects.map (gU (bG h))) hfm hbm (by simp; omega) (by simp; omega)
    refine am9 ((h+1:Nat):Int) t _ (gU (bG h)) (bG h) (by omega) (by omega) (by simpa using hc) (fun h1=>by omega) ?_ (by omega) t6 (fun a ha=>?_) (fun o ho=>?_) ?_
    ·refine ady ht (by simpa using t6) (fun a ha=>?_) (Xg (ko h) hNn hfm)
     obtain⟨x,hx,rfl⟩:=List.mem_map.1 ha
     obtain⟨x1,x2,x3,x4,x5⟩:=gY (t7 x hx)
     exact UY x1 x2 x3 (ko h _ x4) (by rw[Arr.QB,hNn _ x4]; exact x5)
    ·rw[eh]
     exact ih' a.item m (gY (t7 a ha)).2.2.2.1 (hbi.2.2.1 a ha) (by omega)
    ·rw[eh]; exact hW o ho
    ·rw[eh]; exact hO
end Go.Proofs.YtfilonnphgnplaaGreatDoor.Pv
set_option maxRecDepth 100000
namespace Go.Proofs.YtfilonnphgnplaaGreatDoor.Pv
open Go Go.Tidy
theorem akS:∀ {l:List Arr} {k:Nat} (hk:k<l.length),kg (l.take (k+1))=kg (l.take k)+iW l[k].item
 | .mk t _ _::l,0,_=>by simp[kg]
 | .mk t _ _::l,k+1,h=>by
   have:=akS (l:=l) (k:=k) (by simpa using h)
   simp only[List.take_succ_cons,kg,List.getElem_cons_succ]
   rw[this]; omega
theorem ajS:∀ {l:List Ty} {k:Nat} (hk:k<l.length),lu (l.take (k+1))=lu (l.take k)+iW l[k]
 | t::l,0,_=>by simp[lu]
 | t::l,k+1,h=>by
   have:=ajS (l:=l) (k:=k) (by simpa using h)
   simp only[List.take_succ_cons,lu,List.getElem_cons_succ]
   rw[this]; omega
theorem akv:∀ {l:List Ob} {k:Nat} (hk:k<l.length),ng (l.take (k+1))=ng (l.take k)+(iW l[k].rest+lu l[k].fields)
 | .mk _ fs _ r::l,0,_=>by simp[ng]
 | .mk _ fs _ r::l,k+1,h=>by
   have:=akv (l:=l) (k:=k) (by simpa using h)
   simp only[List.take_succ_cons,ng,List.getElem_cons_succ]
   rw[this]; omega
theorem ahG (t:Ty):iW t=1+(kg t.arrays+ng t.objects):=by cases t; rfl
theorem aFV (l:List Arr) (k:Nat):kg (l.take k)≤kg l:=by
 induction l generalizing k with
 | nil=>simp
 | cons a l ih =>
   obtain⟨t,_,_⟩:=a
   cases k with
   | zero=>simp[kg]
   | succ k=>have:=ih k; simp only[List.take_succ_cons,kg]; omega
theorem aGJ (l:List Ty) (k:Nat):lu (l.take k)≤lu l:=by
 induction l generalizing k with
 | nil=>simp
 | cons a l ih =>
   cases k with
   | zero=>simp[lu]
   | succ k=>have:=ih k; simp only[List.take_succ_cons,lu]; omega
set_option maxHeartbeats 4000000 in
theorem aGC (t:Ty) (m:Nat) (hm:m≤1000000) (hA:∀ a∈t.arrays,∀ k,k<m→Ret prog M.qj [.agg (cT a.item),.int .i64 (k:Nat)] (.int .i64 (min (iW a.item) (k+1):Nat)))
 (hR:∀ o∈t.objects,∀ k,k<m→Ret prog M.qj [.agg (cT o.rest),.int .i64 (k:Nat)] (.int .i64 (min (iW o.rest) (k+1):Nat)))
 (hF:∀ o∈t.objects,∀ f∈o.fields,∀ k,k<m→Ret prog M.qj [.agg (cT f),.int .i64 (k:Nat)] (.int .i64 (min (iW f) (k+1):Nat))) :
 Ret prog M.qj [.agg (cT t),.int .i64 (m:Nat)] (.int .i64 (min (iW t) (m+1):Nat)):=by
 refine Ret.go ah ayA (by simp) fun hb w0 F0 hG=>?_
 simp only[fu,gQ,List.length_map,LIM,and_true] at hb
 have hd:=ahG t
 generalize iW t=H at *
 simp
 intro v
 have key:∀ (n0:Nat) (st:St),n0=min (1+kg t.arrays) (m+1)→LS st ⟨[(7,.int .i64 0),(5,.int .i64 (n0:Nat)),(2,.ptr (2,v) 9 0 0),(1,.int .i64 m)],[((2,v),some ⟨9,[cT t],false,true⟩)]⟩ →
  aU ⟨prog,w0,F0,87,[],0,hG⟩ (.loop M.afp) st [.bk 2,.sq M.afn] (uw M.agS (.int .i64 (min H (m+1):Nat))):=fun n0 st hn0 hst=>by
  obtain⟨J,hJ⟩ : ∃ J:Nat→Nat→Prop,J=fun k n=>n=min (1+kg t.arrays+ng (t.objects.take k)) (m+1):=⟨_,rfl⟩
  refine aU.cnt ah t.objects.length (fun k n=>⟨[(7,.int .i64 k),(5,.int .i64 (n:Nat)),(2,.ptr (2,v) 9 0 0),(1,.int .i64 m)],[((2,v),some ⟨9,[cT t],false,true⟩)]⟩) J n0 (by rw[hJ]; simp[ng,hn0]) (by simpa using hst) fun k n hk hj=>?_
  have hw:=wrap64 (n:=(k:Int)+1) (by omega) (by omega)
  have hj' : n=min (1+kg t.arrays+ng (t.objects.take k)) (m+1):=by rw[hJ] at hj; exact hj
  by_cases h1:k<t.objects.length
  ·have hto:=akv h1
   have hof:t.objects[k].fields.length≤140737488355328:=by
    have:=Jr hb.1.2.2.2.2.2.2.2.2.2 t.objects[k] (List.getElem_mem h1)
    simp only[qM,fu,gQ,List.length_map,LIM,and_true] at this
    omega
   simp[h1]
   obtain⟨n1,hn1⟩ : ∃ n1,n1=min (1+kg t.arrays+ng (t.objects.take k)+iW t.objects[k].rest) (m+1):=⟨_,rfl⟩
   refine bQ.one ah ⟨[(7,.int .i64 k),(5,.int .i64 (n1:Nat)),(2,.ptr (2,v) 9 0 0),(1,.int .i64 m)],[((2,v),some ⟨9,[cT t],false,true⟩)]⟩ ?_ ?_
   ·by_cases h2:n≤m
    ·have w1:=wrap64 (n:=(m:Int)-n) (by omega) (by omega)
     have e1:(m:Int)-n=((m-n:Nat):Int):=by omega
     rw[e1] at w1
     have ih:=hR _ (List.getElem_mem h1) (m-n) (by omega)
     obtain⟨q,hq⟩ : ∃ q,q=min (iW t.objects[k].rest) (m-n+1):=⟨_,rfl⟩
     rw[← hq] at ih
     have w2:=wrap64 (n:=(n:Int)+q) (by omega) (by omega)
     simp[h1,h2,e1,w1]
     refine aj.ret ih ?_
     simp[w2]
     omega
    ·simp[h2]
     omega
   ·simp
    obtain⟨J',hJ'⟩ : ∃ J:Nat→Nat→Prop,J=fun i n=>n=min (1+kg t.arrays+ng (t.objects.take k)+iW t.objects[k].rest+lu (t.objects[k].fields.take i)) (m+1):=⟨_,rfl⟩
    refine aU.cnt ah t.objects[k].fields.length (fun i n=>⟨[(8,.int .i64 i),(7,.int .i64 k),(5,.int .i64 (n:Nat)),(2,.ptr (2,v) 9 0 0),(1,.int .i64 m)],[((2,v),some ⟨9,[cT t],false,true⟩)]⟩) J' n1 (by rw[hJ']; simp[lu,hn1]) (by simp) fun i n hi hj2=>?_
    have hw2:=wrap64 (n:=(i:Int)+1) (by omega) (by omega)
    have hj3:n=min (1+kg t.arrays+ng (t.objects.take k)+iW t.objects[k].rest+lu (t.objects[k].fields.take i)) (m+1):=by rw[hJ'] at hj2; exact hj2
    have hle:=aGJ t.objects[k].fields i
    by_cases h3:i<t.objects[k].fields.length
    ·by_cases h2:n≤m
     ·have w1:=wrap64 (n:=(m:Int)-n) (by omega) (by omega)
      have e1:(m:Int)-n=((m-n:Nat):Int):=by omega
      rw[e1] at w1
      have ih:=hF _ (List.getElem_mem h1) _ (List.getElem_mem h3) (m-n) (by omega)
      obtain⟨q,hq⟩ : ∃ q,q=min (iW t.objects[k].fields[i]) (m-n+1):=⟨_,rfl⟩
      rw[← hq] at ih
      have w2:=wrap64 (n:=(n:Int)+q) (by omega) (by omega)
      have hto:=ajS h3
      simp[h1,h2,h3,e1,w1]
      refine aj.ret ih ?_
      simp[w2,hw2,h3]
      exact⟨n+q,by rw[hJ']; show _=_; omega,by simp⟩
     ·simp[h1,h2,h3,hw]
      exact⟨n,by rw[hJ]; show _=_; omega,rfl⟩
    ·have e0:t.objects[k].fields.take i=t.objects[k].fields:=List.take_of_length_le (by omega)
     rw[e0] at hj3
     simp[h1,h3,hw]
     exact⟨n,by rw[hJ]; show _=_; omega,rfl⟩
  ·have e0:t.objects.take k=t.objects:=List.take_of_length_le (by omega)
   rw[e0] at hj'
   simp[h1]
   omega
 obtain⟨J,hJ⟩ : ∃ J:Nat→Nat→Prop,J=fun k n=>n=min (1+kg (t.arrays.take k)) (m+1):=⟨_,rfl⟩
 refine aU.cnt ah t.arrays.length (fun k n=>⟨[(6,.int .i64 k),(5,.int .i64 (n:Nat)),(2,.ptr (2,v) 9 0 0),(1,.int .i64 m)],[((2,v),some ⟨9,[cT t],false,true⟩)]⟩) J 1 (by rw[hJ]; simp[kg]) (by simp) fun k n hk hj=>?_
 have hw:=wrap64 (n:=(k:Int)+1) (by omega) (by omega)
 have hj' : n=min (1+kg (t.arrays.take k)) (m+1):=by rw[hJ] at hj; exact hj
 have hle:=aFV t.arrays k
 by_cases h1:k<t.arrays.length
 ·by_cases h2:n≤m
  ·have w1:=wrap64 (n:=(m:Int)-n) (by omega) (by omega)
   have e1:(m:Int)-n=((m-n:Nat):Int):=by omega
   rw[e1] at w1
   have ih:=hA _ (List.getElem_mem h1) (m-n) (by omega)
   obtain⟨q,hq⟩ : ∃ q,q=min (iW t.arrays[k].item) (m-n+1):=⟨_,rfl⟩
   rw[← hq] at ih
   have w2:=wrap64 (n:=(n:Int)+q) (by omega) (by omega)
   have hto:=akS h1
   simp[h1,h2,e1,w1]
   refine aj.ret ih ?_
   simp[w2,hw,h1]
   exact⟨n+q,by rw[hJ]; show _=_; omega,by simp⟩
  ·simp[h1,h2]
   exact key n _ (by omega) (by simp)
 ·have e0:t.arrays.take k=t.arrays:=List.take_of_length_le (by omega)
  rw[e0] at hj'
  simp[h1]
  exact key n _ hj' (by simp)
theorem axz (t:Ty):∀ m:Nat,m≤1000000→Ret prog M.qj [.agg (cT t),.int .i64 (m:Nat)] (.int .i64 (min (iW t) (m+1):Nat)):=by
 induction hn:SizeOf.sizeOf t using Nat.strongRecOn generalizing t with
 | _ n ih =>
   subst hn
   intro m hm
   exact aGC t m hm (fun a ha k hk=>ih _ (yc ha) a.item rfl k (by omega)) (fun o ho k hk=>ih _ (uQ ho) o.rest rfl k (by omega)) (fun o ho f hf k hk=>ih _ (uh ho hf) f rfl k (by omega))
set_option maxHeartbeats 4000000 in
theorem akk (NM:List S) (hn:NM.length≤20000) (t:Ty) (ht:ak t=true) (m:Nat) (hb4:bdT NM m t) (hm:m≤4*(NM.length+1)):Ret prog M.Yh [.agg (cT t)] (.agg (cT (oQ t))):=by
 refine Ret.go ah aAV (by simp) fun hb w0 F0 hG=>?_
 have cN:∀ h:Nat,h≤8→Ret prog M.jv [.agg (cT t),.int .i64 (h:Nat)] (.agg (cT (bG h t))):=fun h hh=>atx NM hn h hh t m ht hb4 (Nat.le_trans hm (aFq NM h))
 generalize hR:oQ t=R
 simp
 intro v1 v2
 refine aj.ret (cN 0 (by omega)) ?_
 simp
 intro v3
 obtain⟨J,hJ⟩ : ∃ J:Nat→Ty→Prop,J=fun k b=>b=bG k t∧R=uH t (8-k) (k+1) b:=⟨_,rfl⟩
 refine aU.cnt ah 8 (fun k b=>⟨[(4,.int .i64 (k+1:Nat)),(3,.ptr (3,v3) 9 0 0),(2,.ptr (2,v2) 9 0 0),(1,.ptr (1,v1) 9 0 0)],[((3,v3),some ⟨9,[cT b],false,true⟩),((2,v2),some ⟨9,[M.z1],false,true⟩),((1,v1),some ⟨9,[cT t],false,true⟩)]⟩) J (bG 0 t) (by rw[hJ]; exact⟨rfl,hR.symm⟩) (by simp) fun k b hk hj=>?_
 obtain⟨j1,j2⟩ : b=bG k t∧R=uH t (8-k) (k+1) b:=by rw[hJ] at hj; exact hj
 obtain⟨i,hi⟩ : ∃ i,i=k+1:=⟨_,rfl⟩
 have hw:=wrap64 (n:=(i:Int)+1) (by omega) (by omega)
 show XC _ _ ⟨[(4,.int .i64 (k+1:Nat)),(3,.ptr (3,v3) 9 0 0),(2,.ptr (2,v2) 9 0 0),(1,.ptr (1,v1) 9 0 0)],[((3,v3),some ⟨9,[cT b],false,true⟩),((2,v2),some ⟨9,[M.z1],false,true⟩),((1,v1),some ⟨9,[cT t],false,true⟩)]⟩ _ _
 rw[← hi]
 by_cases h1:k<8
 ·have g1:(i:Int)≤8:=by omega
  have e8:8-k=(8-(k+1))+1:=by omega
  rw[e8,zX,← hi] at j2
  simp[g1]
  refine aj.ret (cN i (by omega)) ?_
  have cP:=axz (bG i t) 200 (by omega)
  generalize hN:bG i t=N at *
  simp
  intro v5
  refine aj.ret cP ?_
  by_cases h2:iW N≤200
  ·rw[if_pos h2] at j2
   have h2' : ¬ (200:Int)<(min (iW N) 201:Nat):=by omega
   simp[h2',hw]
   exact⟨h1,N,by rw[hJ,← hi]; exact⟨hN.symm,j2⟩,by simp; omega⟩
  ·rw[if_neg h2] at j2
   have h2' : (200:Int)<(min (iW N) 201:Nat):=by omega
   simp[h2',j2]
 ·have g1:¬ (i:Int)≤8:=by omega
  have:R=b:=by rw[j2,show 8-k=0 by omega]; rfl
  simp[g1,this]
def aMr (NM:List S) (t:Ty):Prop:=NM.length≤20000∧∃ m,bdT NM m t∧m≤4*(NM.length+1)
theorem aA8 (NM:List S) (t:Ty) (hN:aMr NM t):Ret prog M.aeg [.agg (cT t)] (.tup [.agg (cT (if ak t then oQ t else d9)),.int .i64 (if ak t then 0 else 1)]):=by
 obtain⟨hn,m,hb4,hm⟩:=hN
 refine Ret.go ah aAt (by simp) fun hb w0 F0 hG=>?_
 simp
 intros
 refine aj.ret (zm t) ?_
 cases hf:ak t
 ·simp[d9]
 ·simp
  refine aj.ret (akk NM hn t hf m hb4 hm) ?_
  simp
theorem aev {t:Ty} (ht:ak t=true):ak (oQ t)=true:=by
 obtain⟨k,_,e⟩:=aAz t
 rw[e]; exact ko k t ht
theorem aGY (NM:List S) (t:Ty) (hN:aMr NM t):Ret prog M.ahD [.agg (cT t)] (.bool (ak t&&jm t (oQ t))):=by
 obtain⟨hn,m,hb4,hm⟩:=hN
 refine Ret.go ah aGI (by simp) fun hb w0 F0 hG=>?_
 simp
 intros
 refine aH.ret (zm t) ?_
 cases hf:ak t
 ·simp
 ·simp
  refine aH.ret (akk NM hn t hf m hb4 hm) ?_
  simp
  refine aH.ret (aeF t (oQ t) hf (aev hf)) ?_
  simp
end Go.Proofs.YtfilonnphgnplaaGreatDoor.Pv
set_option maxRecDepth 100000
namespace Go.Proofs.YtfilonnphgnplaaGreatDoor.Pv
open Go Go.Tidy
theorem aIe (t:Ty):fu (cT t)→dlT t:=by
 induction hn:SizeOf.sizeOf t using Nat.strongRecOn generalizing t with
 | _ n ih =>
   subst hn
   intro h
   simp only[fu,gQ,List.length_map,LIM,and_true,true_and] at h
   obtain⟨⟨h1,_⟩,⟨h2,_⟩,⟨h3,h3'⟩,h4,h4'⟩:=h
   rw[aFc,ah3,ahE]
   refine⟨h1,h2,fun a ha=>?_,fun o ho=>?_⟩
   ·have:=Jr h3' a ha
    refine ih _ (yc ha) a.item rfl ?_
    simp only[ajE,fu,gQ,true_and,and_true] at this ⊢
    exact⟨this.1,this.2.1,this.2.2.1,this.2.2.2.1⟩
   ·have:=Jr h4' o ho
    simp only[qM,fu,gQ,List.length_map,LIM,true_and,and_true] at this
    obtain⟨⟨k1,_⟩,⟨k2,k2'⟩,⟨k3,_⟩,k4⟩:=this
    refine⟨k1,k3,fun f hf=>?_,?_⟩
    ·have:=Jr k2' f hf
     refine ih _ (uh ho hf) f rfl ?_
     rw[adU] at this; exact this
    ·refine ih _ (uQ ho) o.rest rfl ?_
     simp only[fu,gQ,List.length_map,LIM,true_and,and_true]
     exact k4
theorem aMw {m:Nat} (h:m≤20000):tpB m≤9000000000000000000:=by unfold tpB; omega
set_option maxHeartbeats 4000000 in
theorem atE (t:Ty) (m:Nat) (hm:m≤20000) (hdl:fu (cT t)→dlT t) (hA:∀ a∈t.arrays,∀ k,k<m→Ret prog M.nI [.agg (cT a.item),.int .i64 (k:Nat)] (.int .i64 (tpT a.item k:Nat)))
 (hR:∀ o∈t.objects,∀ k,k<m→Ret prog M.nI [.agg (cT o.rest),.int .i64 (k:Nat)] (.int .i64 (tpT o.rest k:Nat)))
 (hF:∀ o∈t.objects,∀ f∈o.fields,∀ k,k<m→Ret prog M.nI [.agg (cT f),.int .i64 (k:Nat)] (.int .i64 (tpT f k:Nat))) :
 Ret prog M.nI [.agg (cT t),.int .i64 (m:Nat)] (.int .i64 (tpT t m:Nat)):=by
 refine Ret.go ah apU (by simp) fun hb w0 F0 hG=>?_
 have hdt:=hdl hb.1
 have hb1:=hb.1
 simp only[fu,gQ,List.length_map,LIM,and_true,true_and] at hb1
 obtain⟨⟨z1,_⟩,⟨z2,_⟩,⟨z3,_⟩,z4,z4'⟩:=hb1
 clear hb
 have hB:=aMw hm
 have hB0:=aAI m
 rw[aFc,ah3,ahE] at hdt
 obtain⟨-,-,d3,d4⟩:=hdt
 have hd:=aLE t m
 have n1:1≤1+t.texts.length+t.nums.length:=by omega
 obtain⟨N0,hN0⟩ : ∃ N0,N0=1+t.texts.length+t.nums.length:=⟨_,rfl⟩
 rw[← hN0] at n1 hd
 have bA:∀ k,qY (t.arrays.take k) m N0≤tpB m∧N0≤qY (t.arrays.take k) m N0:=fun k=>⟨an9 _ m N0 (ah3.2 fun a ha=>d3 a (List.mem_of_mem_take ha)) n1 (by omega),akh _ _ _⟩
 obtain⟨NA,hNA⟩ : ∃ NA,NA=qY t.arrays m N0:=⟨_,rfl⟩
 have bNA:NA≤tpB m∧N0≤NA:=by have:=bA t.arrays.length; rw[List.take_length] at this; rw[hNA]; exact this
 rw[← hNA] at hd
 have bO:∀ k,tu (t.objects.take k) m NA≤tpB m∧NA≤tu (t.objects.take k) m NA:=fun k=>⟨aoo _ m NA (ahE.2 fun o ho=>d4 o (List.mem_of_mem_take ho)) (by omega) bNA.1,ako _ _ _⟩
 generalize tpT t m=H at *
 have w01:=wrap64 (n:=1+(t.texts.length:Int)) (by omega) (by omega)
 have w02:=wrap64 (n:=1+(t.texts.length:Int)+t.nums.length) (by omega) (by omega)
 simp[w01,w02]
 intro v
 have key:∀ (st:St),LS st ⟨[(7,.int .i64 0),(5,.int .i64 (NA:Nat)),(2,.ptr (2,v) 9 0 0),(1,.int .i64 m)],[((2,v),some ⟨9,[cT t],false,true⟩)]⟩ →
  aU ⟨prog,w0,F0,113,[],0,hG⟩ (.loop M.ac0) st [.bk 2,.sq M.acZ] (uw M.aey (.int .i64 (H:Nat))):=fun st hst=>by
  obtain⟨J,hJ⟩ : ∃ J:Nat→Nat→Prop,J=fun k n=>n=tu (t.objects.take k) m NA:=⟨_,rfl⟩
  refine aU.cnt ah t.objects.length (fun k n=>⟨[(7,.int .i64 k),(5,.int .i64 (n:Nat)),(2,.ptr (2,v) 9 0 0),(1,.int .i64 m)],[((2,v),some ⟨9,[cT t],false,true⟩)]⟩) J NA (by rw[hJ]; simp[tu]) (by simpa using hst) fun k n hk hj=>?_
  have hw:=wrap64 (n:=(k:Int)+1) (by omega) (by omega)
  have hj' : n=tu (t.objects.take k) m NA:=by rw[hJ] at hj; exact hj
  have bn:=bO k
  rw[← hj'] at bn
  by_cases h1:k<t.objects.length
  ·have hto:=avF m t.objects k NA h1
   rw[← hj'] at hto
   obtain⟨q1,q2,q3,q4⟩:=d4 _ (List.getElem_mem h1)
   have hof:t.objects[k].fields.length≤140737488355328:=by
    have:=Jr z4' t.objects[k] (List.getElem_mem h1)
    simp only[qM,fu,gQ,List.length_map,LIM,and_true] at this
    omega
   by_cases h2:n≤m
   ·rw[if_pos h2] at hto
    have w1:=wrap64 (n:=(m:Int)-n) (by omega) (by omega)
    have e1:(m:Int)-n=((m-n:Nat):Int):=by omega
    rw[e1] at w1
    have ih:=hR _ (List.getElem_mem h1) (m-n) (by omega)
    have b1:=agP t.objects[k].rest (m-n) q4
    have b2:=aaw (m:=m) (n:=n) (by omega) h2
    generalize tpT t.objects[k].rest (m-n)=q at *
    have w2:=wrap64 (n:=(n:Int)+t.objects[k].names.length) (by omega) (by omega)
    have w3:=wrap64 (n:=(n:Int)+t.objects[k].names.length+t.objects[k].must.length) (by omega) (by omega)
    have w4:=wrap64 (n:=(n:Int)+t.objects[k].names.length+t.objects[k].must.length+q) (by omega) (by omega)
    obtain⟨n2,hn2⟩ : ∃ n2,n2=n+t.objects[k].names.length+t.objects[k].must.length+q:=⟨_,rfl⟩
    have e4:(n:Int)+t.objects[k].names.length+t.objects[k].must.length+q=(n2:Int):=by omega
    rw[e4] at w4
    rw[← hn2] at hto
    simp[h1,h2,e1,w1,w2,w3]
    intros
    refine aH.ret ih ?_
    simp[w2,w3,w4,e4]
    have bT:∀ i,rZ (t.objects[k].fields.take i) m n2≤tpB m∧n2≤rZ (t.objects[k].fields.take i) m n2:=fun i=>⟨aox _ m n2 (anR.2 fun o ho=>q3 o (List.mem_of_mem_take ho)) (by omega) (by omega),afe _ _ _⟩
    obtain⟨J',hJ'⟩ : ∃ J:Nat→Nat→Prop,J=fun i n=>n=rZ (t.objects[k].fields.take i) m n2:=⟨_,rfl⟩
    refine aU.cnt ah t.objects[k].fields.length (fun i n=>⟨[(8,.int .i64 i),(7,.int .i64 k),(5,.int .i64 (n:Nat)),(2,.ptr (2,v) 9 0 0),(1,.int .i64 m)],[((2,v),some ⟨9,[cT t],false,true⟩)]⟩) J' n2 (by rw[hJ']; simp[rZ]) (by simp) fun i n' hi hj2=>?_
    have hw2:=wrap64 (n:=(i:Int)+1) (by omega) (by omega)
    have hj3:n'=rZ (t.objects[k].fields.take i) m n2:=by rw[hJ'] at hj2; exact hj2
    have bn':=bT i
    rw[← hj3] at bn'
    by_cases h3:i<t.objects[k].fields.length
    ·have hts:=ave m t.objects[k].fields i n2 h3
     rw[← hj3] at hts
     by_cases h4:n'≤m
     ·rw[if_pos h4] at hts
      have w1':=wrap64 (n:=(m:Int)-n') (by omega) (by omega)
      have e1' : (m:Int)-n'=((m-n' : Nat):Int):=by omega
      rw[e1'] at w1'
      have ih':=hF _ (List.getElem_mem h1) _ (List.getElem_mem h3) (m-n') (by omega)
      have b1':=agP t.objects[k].fields[i] (m-n') (q3 _ (List.getElem_mem h3))
      have b2':=aaw (m:=m) (n:=n') (by omega) h4
      generalize tpT t.objects[k].fields[i] (m-n')=q' at *
      have w5:=wrap64 (n:=(n' : Int)+q') (by omega) (by omega)
      simp[h1,h3,h4,e1',w1']
      refine aj.ret ih' ?_
      simp[w5,hw2,h3]
      exact⟨n'+q',by rw[hJ']; exact hts.symm,by simp⟩
     ·have hstop:=avB (m:=m) (l:=t.objects[k].fields) (k:=i) (n:=n2) (by omega)
      simp[h1,h3,h4,hw]
      exact⟨n',by rw[hJ]; show _=_; rw[hto,hstop,hj3],rfl⟩
    ·have e0:t.objects[k].fields.take i=t.objects[k].fields:=List.take_of_length_le (by omega)
     rw[e0] at hj3
     simp[h1,h3,hw]
     exact⟨n',by rw[hJ]; show _=_; rw[hto,hj3],rfl⟩
   ·have hstop:=avP (m:=m) (l:=t.objects) (k:=k) (n:=NA) (by omega)
    simp[h1,h2]
    rw[hd,hstop,hj']
  ·have e0:t.objects.take k=t.objects:=List.take_of_length_le (by omega)
   rw[e0] at hj'
   simp[h1]
   rw[hd,hj']
 obtain⟨J,hJ⟩ : ∃ J:Nat→Nat→Prop,J=fun k n=>n=qY (t.arrays.take k) m N0:=⟨_,rfl⟩
 refine aU.cnt ah t.arrays.length (fun k n=>⟨[(6,.int .i64 k),(5,.int .i64 (n:Nat)),(2,.ptr (2,v) 9 0 0),(1,.int .i64 m)],[((2,v),some ⟨9,[cT t],false,true⟩)]⟩) J N0 (by rw[hJ]; simp[qY]) (by simp[hN0]) fun k n hk hj=>?_
 have hw:=wrap64 (n:=(k:Int)+1) (by omega) (by omega)
 have hj' : n=qY (t.arrays.take k) m N0:=by rw[hJ] at hj; exact hj
 have bn:=bA k
 rw[← hj'] at bn
 by_cases h1:k<t.arrays.length
 ·have hta:=avy m t.arrays k N0 h1
  rw[← hj'] at hta
  by_cases h2:n≤m
  ·rw[if_pos h2] at hta
   have w1:=wrap64 (n:=(m:Int)-n) (by omega) (by omega)
   have e1:(m:Int)-n=((m-n:Nat):Int):=by omega
   rw[e1] at w1
   have ih:=hA _ (List.getElem_mem h1) (m-n) (by omega)
   have b1:=agP t.arrays[k].item (m-n) (d3 _ (List.getElem_mem h1))
   have b2:=aaw (m:=m) (n:=n) (by omega) h2
   generalize tpT t.arrays[k].item (m-n)=q at *
   have w2:=wrap64 (n:=(n:Int)+q) (by omega) (by omega)
   simp[h1,h2,e1,w1]
   refine aj.ret ih ?_
   simp[w2,hw,h1]
   exact⟨n+q,by rw[hJ]; exact hta.symm,by simp⟩
  ·have hstop:=avq (m:=m) (l:=t.arrays) (k:=k) (n:=N0) (by omega)
   have e2:n=NA:=by rw[hNA,hstop,hj']
   simp[h1,h2]
   exact key _ (by simp[e2])
 ·have e0:t.arrays.take k=t.arrays:=List.take_of_length_le (by omega)
  rw[e0] at hj'
  have e2:n=NA:=by rw[hNA,hj']
  simp[h1]
  exact key _ (by simp[e2])
theorem apc (t:Ty):∀ m:Nat,m≤20000→Ret prog M.nI [.agg (cT t),.int .i64 (m:Nat)] (.int .i64 (tpT t m:Nat)):=by
 induction hn:SizeOf.sizeOf t using Nat.strongRecOn generalizing t with
 | _ n ih =>
   subst hn
   intro m hm
   exact atE t m hm (aIe t) (fun a ha k hk=>ih _ (yc ha) a.item rfl k (by omega)) (fun o ho k hk=>ih _ (uQ ho) o.rest rfl k (by omega)) (fun o ho f hf k hk=>ih _ (uh ho hf) f rfl k (by omega))
def NI (t:Ty):Bool:=decide (tpT t 20000≤20000)
theorem ait (t:Ty):Ret prog M.U7 [.agg (cT t)] (.bool (NI t)):=by
 refine Ret.go ah av5 (by simp) fun hb w0 F0 hG=>?_
 simp
 intros
 refine aj.ret (apc t 20000 (by omega)) ?_
 simp[NI]; omega
theorem aoH {t:Ty} (h:NI t=true):ay t<2 ^ 62:=by
 have h1:=(alf (of_decide_eq_true h)).2.1
 have:=alx t
 omega
def arx (a b:Ty):Bool:=NI a&&NI b&&decide (ay a<64)&&decide (ay b<64)
theorem aB3 (a b:Ty):Ret prog M.aeV [.agg (cT a),.agg (cT b)] (.bool (arx a b)):=by
 refine Ret.go ah aB5 (by simp) fun hb w0 F0 hG=>?_
 unfold arx
 simp
 intros
 refine aj.ret (ait a) ?_
 cases e1:NI a
 ·simp
 ·simp
  refine aj.ret (ait b) ?_
  cases e2:NI b
  ·simp
  ·simp
   refine aj.ret (ag1 a (aoH e1)) ?_
   by_cases e3:ay a<64
   ·have e3' : (ay a:Int)<64:=by omega
    simp[e3,e3']
    refine aj.ret (ag1 b (aoH e2)) ?_
    simp
    omega
   ·have e3' : ¬ (ay a:Int)<64:=by omega
    simp[e3,e3']
theorem GY (a b:Ty):Ret prog M.uJ [.agg (cT a),.agg (cT b)] (.bool (eqv a b)):=by
 refine Ret.go ah aBu (by simp) fun hb w0 F0 hG=>?_
 simp
 intros
 refine aj.ret (ar0 a b) ?_
 simp
end Go.Proofs.YtfilonnphgnplaaGreatDoor.Pv
namespace Go.Proofs.YtfilonnphgnplaaGreatDoor
open Go Go.RowKit Go.Maps Go.Sort Go.Shelf
def Tryz.avs:Go.Shelf.Ren:=⟨fun|7=>158|10=>225|n=>n,fun|23=>164|26=>9|3=>3|28=>167|0=>0|27=>166|33=>95|4=>4|n=>n,fun|n=>n⟩
theorem Tryz.aKP:Go.Proofs.SlLaysZ.n7 Tryz.prog Tryz.avs:={
 mixed:=by kernel_rfl
 f7:=⟨Tryz.f158.name,by decide,Tryz.func158.trans (congrArg some (by kernel_rfl))⟩
 f10:=⟨Tryz.f225.name,by decide,Tryz.func225.trans (congrArg some (by kernel_rfl))⟩
 t0:=Tryz.underlying0
 a0:=Tryz.isAgg0
 z0:=Tryz.sizeOf0
 v0:=Tryz.zeroValue0
 t4:=Tryz.underlying4
 a4:=Tryz.isAgg4
 z4:=Tryz.sizeOf4
 v4:=Tryz.zeroValue4
 t23:=Tryz.underlying164
 a23:=Tryz.isAgg164
 z23:=Tryz.sizeOf164
 v23:=Tryz.zeroValue164
 t26:=Tryz.underlying9
 a26:=Tryz.isAgg9
 z26:=Tryz.sizeOf9
 v26:=Tryz.zeroValue9
 t27:=Tryz.underlying166
 a27:=Tryz.isAgg166
 z27:=Tryz.sizeOf166
 v27:=Tryz.zeroValue166
 t28:=Tryz.underlying167
 a28:=Tryz.isAgg167
 z28:=Tryz.sizeOf167
 v28:=Tryz.zeroValue167
 t33:=Tryz.underlying95
 a33:=Tryz.isAgg95
 z33:=Tryz.sizeOf95
 v33:=Tryz.zeroValue95 }
def Tryz.amT:Go.Shelf.Ren:=⟨fun|6=>157|8=>224|9=>155|11=>267|13=>223|12=>222|23=>265|24=>266|14=>256|15=>257|16=>258|17=>259|18=>260|19=>261|20=>262|21=>263|22=>264|25=>281|26=>282|27=>283|28=>284|29=>285|30=>279|31=>298|n=>n,fun|26=>9|28=>167|24=>26|0=>0|3=>3|37=>242|48=>269|50=>271|4=>4|40=>262|39=>261|45=>243|5=>5|9=>9|51=>279|55=>283|57=>296|58=>297|33=>95|n=>n,fun|n=>n⟩
theorem Tryz.aK5:Go.Proofs.SlLaysZ.n6 Tryz.prog Tryz.amT:={
 mixed:=by kernel_rfl
 f6:=⟨Tryz.f157.name,by decide,Tryz.func157.trans (congrArg some (by kernel_rfl))⟩
 f8:=⟨Tryz.f224.name,by decide,Tryz.func224.trans (congrArg some (by kernel_rfl))⟩
 f11:=⟨Tryz.f267.name,by decide,Tryz.func267.trans (congrArg some (by kernel_rfl))⟩
 t0:=Tryz.underlying0
 a0:=Tryz.isAgg0
 z0:=Tryz.sizeOf0
 v0:=Tryz.zeroValue0
 t24:=Tryz.underlying26
 a24:=Tryz.isAgg26
 z24:=Tryz.sizeOf26
 v24:=Tryz.zeroValue26
 t26:=Tryz.underlying9
 a26:=Tryz.isAgg9
 z26:=Tryz.sizeOf9
 v26:=Tryz.zeroValue9
 t28:=Tryz.underlying167
 a28:=Tryz.isAgg167
 z28:=Tryz.sizeOf167
 v28:=Tryz.zeroValue167
 i26:=by kernel_rfl }
def Tryz.aHe:Go.Shelf.Ren:=⟨fun|6=>155|8=>223|9=>222|19=>265|20=>266|21=>256|22=>257|23=>258|24=>259|25=>260|26=>261|27=>262|28=>263|29=>264|36=>281|31=>282|32=>283|37=>284|38=>285|39=>279|41=>298|n=>n,fun|27=>26|29=>9|3=>3|32=>242|26=>26|0=>0|44=>269|46=>271|4=>4|36=>262|35=>261|41=>243|5=>5|9=>9|53=>279|57=>283|63=>296|64=>297|n=>n,fun|n=>n⟩
theorem Tryz.ay4:Go.Proofs.SlLaysM.n6 Tryz.prog Tryz.aHe:={
 mixed:=by kernel_rfl
 f6:=⟨Tryz.f155.name,by decide,Tryz.func155.trans (congrArg some (by kernel_rfl))⟩
 f8:=Tryz.func223.trans (congrArg some (by kernel_rfl))
 f9:=⟨Tryz.f222.name,by decide,Tryz.func222.trans (congrArg some (by kernel_rfl))⟩
 f19:=Tryz.func265.trans (congrArg some (by kernel_rfl))
 f20:=Tryz.func266.trans (congrArg some (by kernel_rfl))
 f21:=⟨Tryz.f256.name,by decide,Tryz.func256.trans (congrArg some (by kernel_rfl))⟩
 f22:=⟨Tryz.f257.name,by decide,Tryz.func257.trans (congrArg some (by kernel_rfl))⟩
 f23:=⟨Tryz.f258.name,by decide,Tryz.func258.trans (congrArg some (by kernel_rfl))⟩
 f24:=⟨Tryz.f259.name,by decide,Tryz.func259.trans (congrArg some (by kernel_rfl))⟩
 f25:=⟨Tryz.f260.name,by decide,Tryz.func260.trans (congrArg some (by kernel_rfl))⟩
 f26:=⟨Tryz.f261.name,by decide,Tryz.func261.trans (congrArg some (by kernel_rfl))⟩
 f27:=⟨Tryz.f262.name,by decide,Tryz.func262.trans (congrArg some (by kernel_rfl))⟩
 f28:=⟨Tryz.f263.name,by decide,Tryz.func263.trans (congrArg some (by kernel_rfl))⟩
 f29:=⟨Tryz.f264.name,by decide,Tryz.func264.trans (congrArg some (by kernel_rfl))⟩
 f31:=Tryz.func282.trans (congrArg some (by kernel_rfl))
 f32:=Tryz.func283.trans (congrArg some (by kernel_rfl))
 f36:=⟨Tryz.f281.name,by decide,Tryz.func281.trans (congrArg some (by kernel_rfl))⟩
 f37:=⟨Tryz.f284.name,by decide,Tryz.func284.trans (congrArg some (by kernel_rfl))⟩
 f38:=⟨Tryz.f285.name,by decide,Tryz.func285.trans (congrArg some (by kernel_rfl))⟩
 f39:=⟨Tryz.f279.name,by decide,Tryz.func279.trans (congrArg some (by kernel_rfl))⟩
 f41:=⟨Tryz.f298.name,by decide,Tryz.func298.trans (congrArg some (by kernel_rfl))⟩
 t0:=Tryz.underlying0
 a0:=Tryz.isAgg0
 z0:=Tryz.sizeOf0
 v0:=Tryz.zeroValue0
 t3:=Tryz.underlying3
 a3:=Tryz.isAgg3
 z3:=Tryz.sizeOf3
 v3:=Tryz.zeroValue3
 t4:=Tryz.underlying4
 a4:=Tryz.isAgg4
 z4:=Tryz.sizeOf4
 v4:=Tryz.zeroValue4
 t5:=Tryz.underlying5
 a5:=Tryz.isAgg5
 z5:=Tryz.sizeOf5
 v5:=Tryz.zeroValue5
 t9:=Tryz.underlying9
 a9:=Tryz.isAgg9
 z9:=Tryz.sizeOf9
 v9:=Tryz.zeroValue9
 t26:=Tryz.underlying26
 a26:=Tryz.isAgg26
 z26:=Tryz.sizeOf26
 v26:=Tryz.zeroValue26
 t27:=Tryz.underlying26
 a27:=Tryz.isAgg26
 z27:=Tryz.sizeOf26
 v27:=Tryz.zeroValue26
 t29:=Tryz.underlying9
 a29:=Tryz.isAgg9
 z29:=Tryz.sizeOf9
 v29:=Tryz.zeroValue9
 t32:=Tryz.underlying242
 a32:=Tryz.isAgg242
 z32:=Tryz.sizeOf242
 v32:=Tryz.zeroValue242
 t35:=Tryz.underlying261
 a35:=Tryz.isAgg261
 z35:=Tryz.sizeOf261
 v35:=Tryz.zeroValue261
 t36:=Tryz.underlying262
 a36:=Tryz.isAgg262
 z36:=Tryz.sizeOf262
 v36:=Tryz.zeroValue262
 t41:=Tryz.underlying243
 a41:=Tryz.isAgg243
 z41:=Tryz.sizeOf243
 v41:=Tryz.zeroValue243
 t44:=Tryz.underlying269
 a44:=Tryz.isAgg269
 z44:=Tryz.sizeOf269
 v44:=Tryz.zeroValue269
 t46:=Tryz.underlying271
 a46:=Tryz.isAgg271
 z46:=Tryz.sizeOf271
 v46:=Tryz.zeroValue271
 t53:=Tryz.underlying279
 a53:=Tryz.isAgg279
 z53:=Tryz.sizeOf279
 v53:=Tryz.zeroValue279
 t57:=Tryz.underlying283
 a57:=Tryz.isAgg283
 z57:=Tryz.sizeOf283
 v57:=Tryz.zeroValue283
 t63:=Tryz.underlying296
 a63:=Tryz.isAgg296
 z63:=Tryz.sizeOf296
 v63:=Tryz.zeroValue296
 t64:=Tryz.underlying297
 a64:=Tryz.isAgg297
 z64:=Tryz.sizeOf297
 v64:=Tryz.zeroValue297 }
def Tryz.azR:Go.Shelf.Ren:=⟨fun|44=>156|n=>n,fun|25=>26|26=>9|3=>3|4=>4|0=>0|n=>n,fun|n=>n⟩
theorem Tryz.azn:Go.Proofs.SlLaysN.n44 Tryz.prog Tryz.azR:={
 mixed:=by kernel_rfl
 f44:=⟨Tryz.f156.name,by decide,Tryz.func156.trans (congrArg some (by kernel_rfl))⟩
 t0:=Tryz.underlying0
 a0:=Tryz.isAgg0
 z0:=Tryz.sizeOf0
 v0:=Tryz.zeroValue0
 t3:=Tryz.underlying3
 a3:=Tryz.isAgg3
 z3:=Tryz.sizeOf3
 v3:=Tryz.zeroValue3
 t4:=Tryz.underlying4
 a4:=Tryz.isAgg4
 z4:=Tryz.sizeOf4
 v4:=Tryz.zeroValue4
 t25:=Tryz.underlying26
 a25:=Tryz.isAgg26
 z25:=Tryz.sizeOf26
 v25:=Tryz.zeroValue26
 t26:=Tryz.underlying9
 a26:=Tryz.isAgg9
 z26:=Tryz.sizeOf9
 v26:=Tryz.zeroValue9
 i26:=by kernel_rfl }
def Tryz.KO:Go.Shelf.Ren:=⟨fun|196=>274|259=>288|n=>n,fun|9=>9|4=>4|3=>3|5=>5|12=>12|119=>286|0=>0|46=>242|139=>289|138=>288|53=>271|n=>n,fun|3=>0|4=>1|n=>n⟩
theorem Tryz.au0:Go.Proofs.Lays.n196 Tryz.prog Tryz.KO:={
 mixed:=by kernel_rfl
 f196:=Tryz.func274.trans (congrArg some (by kernel_rfl))
 f259:=Tryz.func288.trans (congrArg some (by kernel_rfl))
 t0:=Tryz.underlying0
 a0:=Tryz.isAgg0
 z0:=Tryz.sizeOf0
 v0:=Tryz.zeroValue0
 t3:=Tryz.underlying3
 a3:=Tryz.isAgg3
 z3:=Tryz.sizeOf3
 v3:=Tryz.zeroValue3
 t4:=Tryz.underlying4
 a4:=Tryz.isAgg4
 z4:=Tryz.sizeOf4
 v4:=Tryz.zeroValue4
 t5:=Tryz.underlying5
 a5:=Tryz.isAgg5
 z5:=Tryz.sizeOf5
 v5:=Tryz.zeroValue5
 t9:=Tryz.underlying9
 a9:=Tryz.isAgg9
 z9:=Tryz.sizeOf9
 v9:=Tryz.zeroValue9
 t12:=Tryz.underlying12
 a12:=Tryz.isAgg12
 z12:=Tryz.sizeOf12
 v12:=Tryz.zeroValue12
 t46:=Tryz.underlying242
 a46:=Tryz.isAgg242
 z46:=Tryz.sizeOf242
 v46:=Tryz.zeroValue242
 t53:=Tryz.underlying271
 a53:=Tryz.isAgg271
 z53:=Tryz.sizeOf271
 v53:=Tryz.zeroValue271
 t119:=Tryz.underlying286
 a119:=Tryz.isAgg286
 z119:=Tryz.sizeOf286
 t138:=Tryz.underlying288
 a138:=Tryz.isAgg288
 z138:=Tryz.sizeOf288
 v138:=Tryz.zeroValue288
 t139:=Tryz.underlying289
 a139:=Tryz.isAgg289
 z139:=Tryz.sizeOf289
 v139:=Tryz.zeroValue289
 g3:=by kernel_rfl
 g4:=by kernel_rfl }
end Go.Proofs.YtfilonnphgnplaaGreatDoor
namespace Go.Proofs.YtfilonnphgnplaaGreatDoor.Pv
open Go Go.Tidy
theorem aKr:∀ c:Fin 256,utf8First[c.1]? = some (Lib.firstT c.1):=by decide +kernel
theorem avc:∀ i:Fin 16,adu[2*i.1]? = some (Lib.accLo i.1)∧adu[2*i.1+1]? = some (Lib.accHi i.1):=by decide +kernel
theorem aLB {w:World} {F:Nat→Prop} (hG:GOk prog w F):Lib.Utf8Tabs (Tryz.KO.g 3) (Tryz.KO.g 4) w:=by
 have h3:aGn prog (Tryz.KO.g 3)=some utf8First:=by kernel_rfl
 have h4:aGn prog (Tryz.KO.g 4)=some adu:=by kernel_rfl
 exact⟨fun c hc=>((hG _ _ h3).2.2 c _ (aKr ⟨c,hc⟩)).1,fun i hi=>⟨((hG _ _ h4).2.2 _ _ (avc ⟨i,hi⟩).1).1,((hG _ _ h4).2.2 _ _ (avc ⟨i,hi⟩).2).1⟩⟩
theorem ajR (s:S):Ret prog M.Oz [.str s] (.bool (Qb s)):=by
 refine⟨by kernel_rfl,fun w F vs hG hF hr=>?_⟩
 obtain⟨v,us,rfl,hv,hus⟩:=hr
 obtain rfl:us=[]:=hus
 obtain⟨rfl,hs⟩:=hv
 have h:Calls prog M.Oz #[.string s] w _:=Any.utf8_ValidString Tryz.au0 s w (by unfold LIM at hs; omega) (aLB hG)
 refine Calls.mono h ?_
 rintro e w' ⟨rfl,hb⟩
 exact⟨_,F,rfl,Bel.of hb,fun _ h=>h,fun b hb'=>⟨Nat.lt_of_lt_of_le (hF b hb') hb.size,.inl hb'⟩,by rw[aDS]; rfl⟩
end Go.Proofs.YtfilonnphgnplaaGreatDoor.Pv
set_option maxRecDepth 100000
namespace Go.Proofs.YtfilonnphgnplaaGreatDoor.Pv
open Go Go.Tidy
theorem aDr (s:S):Ret prog M.afJ [.str s] (.bool (Qb s)):=by
 refine Ret.go ah aEA (by simp) fun hb w0 F0 hG=>?_
 simp
 refine aj.ret (ajR s) ?_
 simp
theorem oz:Ret prog M.oo [] (.agg (cT dn)):=by
 refine Ret.go ah axy (by simp) fun hb w0 F0 hG=>?_
 simp[dn]
theorem aCz {l:List S} {k:Nat} (hk:k<l.length) (h:¬ (Qb l[k]=true∧∀ h:0<k,sLt (l[k-1]'(by omega)) l[k]=true)):jh l=false:=by
 cases hr:jh l
 ·rfl
 ·exact absurd (an6 hk hr) h
set_option maxHeartbeats 4000000 in
theorem ajQ (l:List S):Ret prog M.ZF [.vec 1 false (l.map encStr)] (.bool (jh l)):=by
 refine Ret.go ah aCI (by simp) fun hb w0 F0 hG=>?_
 simp only[fu,gQ,List.length_map,LIM,and_true] at hb
 generalize hB:jh l=B
 simp
 obtain⟨J,hJ⟩ : ∃ J:Nat→Unit→Prop,J=fun k _=>aei l k:=⟨_,rfl⟩
 refine aU.cnt ah l.length (fun k _=>⟨[(7,.int .i64 k),(6,.int .i64 l.length),(5,.vec 1 false (l.map encStr)),(0,.vec 1 false (l.map encStr))],[]⟩) J () (by rw[hJ]; exact fun j _ h=>absurd h (by omega)) (by simp) fun k _ hk hj=>?_
 have hw:=wrap64 (n:=(k:Int)+1) (by omega) (by omega)
 have hj' : aei l k:=by rw[hJ] at hj; exact hj
 by_cases g:k<l.length
 ·simp[g]
  refine aj.ret (aDr l[k]) ?_
  cases e1:Qb l[k]
  ·have:B=false:=by rw[← hB]; exact aCz g (fun h=>by rw[e1] at h; cases h.1)
   simp[this]
  ·by_cases g0:0<k
   ·have g0' : (0:Int)<k:=by omega
    have wm:=wrap64 (n:=(k:Int)-1) (by omega) (by omega)
    have em:(k:Int)-1=((k-1:Nat):Int):=by omega
    have g1:k-1<l.length:=by omega
    rw[em] at wm
    cases e2:sLt l[k-1] l[k]
    ·have:B=false:=by rw[← hB]; exact aCz g (fun h=>by have:=h.2 g0; rw[e2] at this; cases this)
     simp[g0',g0,g,g1,wm,em,e2,this]
    ·simp[g0',g0,g,g1,wm,em,e2,hw]
     exact⟨(),by rw[hJ]; exact hj'.step g e1 fun _=>e2⟩
   ·have g0' : ¬ (0:Int)<k:=by omega
    simp[g0',g0,g,hw]
    exact⟨(),by rw[hJ]; exact hj'.step g e1 fun h=>absurd h g0⟩
 ·have:B=true:=by rw[← hB]; exact azo fun i hi=>hj' i hi (by omega)
  simp[g,this]
theorem agu {α:Type} (l:List α) [Decidable (l=[])]:decide (l=[])=l.isEmpty:=by cases l<;>simp
theorem abF (t:Ty):Ret prog M.AV [.agg (cT t)] (.bool (bare t)):=by
 refine Ret.go ah akY (by simp) fun hb w0 F0 hG=>?_
 unfold bare
 simp
 rw[agu,agu,agu,agu]
 cases t.null<;>cases t.fls<;>cases t.tru<;>cases t.any<;>simp
theorem acU (t:Ty):Ret prog M.UZ [.agg (cT t)] (.bool (never t)):=by
 refine Ret.go ah awy (by simp) fun hb w0 F0 hG=>?_
 unfold never
 cases h:t.all
 ·simp[h]
  intros
  refine aj.ret (by have:=abF t; unfold cT at this; rw[h] at this; exact this) ?_
  simp
 ·simp[h]
theorem ai2 (t:Ty):Ret prog M.L6 [.agg (cT t)] (.bool (!t.all||bare t)):=by
 refine Ret.go ah ajh (by simp) fun hb w0 F0 hG=>?_
 cases h:t.all
 ·simp[h]
 ·simp[h]
  intros
  refine aj.ret (by have:=abF t; unfold cT at this; rw[h] at this; exact this) ?_
  simp
theorem aiW (t:Ty):Ret prog M.Mh [.agg (cT t)] (.bool (jh t.texts&&(!t.any||t.texts.isEmpty))):=by
 refine Ret.go ah ai4 (by simp) fun hb w0 F0 hG=>?_
 simp
 intros
 refine aj.ret (ajQ t.texts) ?_
 cases h1:jh t.texts
 ·simp
 ·cases h2:t.any
  ·simp[h2]
  ·simp[h2,agu]
set_option maxHeartbeats 4000000 in
theorem akn (t:Ty):Ret prog M.Qd [.agg (cT t)] (.bool (decide (t.nums.length≤1)&&t.nums.all jq)):=by
 refine Ret.go ah akE (by simp) fun hb w0 F0 hG=>?_
 simp only[fu,gQ,List.length_map,LIM,and_true] at hb
 generalize hB:t.nums.all jq=B
 simp
 intro v
 obtain⟨J,hJ⟩ : ∃ J:Nat→Unit→Prop,J=fun k _=>iG jq t.nums k:=⟨_,rfl⟩
 refine aU.cnt ah t.nums.length (fun k _=>⟨[(10,.int .i64 k),(9,.int .i64 t.nums.length),(8,.vec 2 false (t.nums.map dH)),(1,.ptr (1,v) 9 0 0)],[((1,v),some ⟨9,[cT t],false,true⟩)]⟩) J () (by rw[hJ]; exact .zero) (by simp) fun k _ hk hj=>?_
 have hw:=wrap64 (n:=(k:Int)+1) (by omega) (by omega)
 have hj' : iG jq t.nums k:=by rw[hJ] at hj; exact hj
 by_cases h1:k<t.nums.length
 ·have no:jq t.nums[k]=false→B=false:=fun h=>hB ▸ uY h1 h
  have yes:jq t.nums[k]=true→J (k+1) ():=fun h=>by rw[hJ]; exact hj'.step h1 h
  have hs:jq t.nums[k]=(gu t.nums[k].low&&gu t.nums[k].high&&(fU t.nums[k].low||fU t.nums[k].high||(fQ t.nums[k].low t.nums[k].high).isLE)):=rfl
  unfold gu at hs
  cases e1:fU t.nums[k].low
  ·cases e2:fU t.nums[k].high
   ·simp[h1,e1,e2]
    intros
    refine aH.ret (Ah t.nums[k].low) ?_
    simp[h1,e1,e2]
    refine aH.ret (Ah t.nums[k].high) ?_
    cases n1:vG t.nums[k].low
    ·simp[n1,e1,e2,h1,no (by rw[hs,e1,n1]; simp)]
    ·cases n2:vG t.nums[k].high
     ·simp[n1,n2,e1,e2,h1,no (by rw[hs,e2,n2]; simp)]
     ·rw[e1,e2,n1,n2] at hs
      simp[n1,n2,e1,e2]
      refine aj.ret (aiL t.nums[k].low t.nums[k].high) ?_
      simp[aby,n1,n2]
      cases hc:fQ t.nums[k].low t.nums[k].high<;>rw[hc] at hs
      ·simp[hw,h1]; exact⟨(),yes (by rw[hs]; rfl)⟩
      ·simp[hw,h1]; exact⟨(),yes (by rw[hs]; rfl)⟩
      ·simp[no (by rw[hs]; rfl)]
   ·simp[h1,e1,e2]
    intros
    refine aH.ret (Ah t.nums[k].low) ?_
    cases n1:vG t.nums[k].low
    ·simp[n1,e1,e2,h1,no (by rw[hs,e1,n1]; simp)]
    ·simp[n1,e1,e2,hw,h1]
     exact⟨(),yes (by rw[hs,e1,e2,n1]; simp)⟩
  ·cases e2:fU t.nums[k].high
   ·simp[h1,e1,e2]
    intros
    refine aH.ret (Ah t.nums[k].high) ?_
    cases n2:vG t.nums[k].high
    ·simp[n2,e1,e2,h1,no (by rw[hs,e2,n2]; simp)]
    ·simp[n2,e1,e2,hw,h1]
     exact⟨(),yes (by rw[hs,e1,e2,n2]; simp)⟩
   ·simp[e1,e2,hw,h1]
    exact⟨(),yes (by rw[hs,e1,e2]; simp)⟩
 ·have:B=true:=by rw[← hB]; exact hj'.all h1
  simp[h1,this]
  omega
end Go.Proofs.YtfilonnphgnplaaGreatDoor.Pv
set_option maxRecDepth 100000
namespace Go.Proofs.YtfilonnphgnplaaGreatDoor.Pv
open Go Go.Tidy
set_option maxHeartbeats 4000000 in
theorem azk (t:Ty) (ih:∀ a∈t.arrays,Ret prog M.jG [.agg (cT a.item)] (.bool (ak a.item))):Ret prog M.za [.agg (cT t)] (.bool (decide (t.arrays.length≤1)&&t.arrays.all iw)):=by
 refine Ret.go ah ahZ (by simp) fun hb w0 F0 hG=>?_
 simp only[fu,gQ,List.length_map,LIM,and_true] at hb
 generalize hB:t.arrays.all iw=B
 simp
 intro v
 obtain⟨J,hJ⟩ : ∃ J:Nat→Unit→Prop,J=fun k _=>iG iw t.arrays k:=⟨_,rfl⟩
 refine aU.cnt ah t.arrays.length (fun k _=>⟨[(8,.int .i64 k),(7,.int .i64 t.arrays.length),(6,.vec 11 false (t.arrays.map dh)),(1,.ptr (1,v) 9 0 0)],[((1,v),some ⟨9,[cT t],false,true⟩)]⟩) J () (by rw[hJ]; exact .zero) (by simp) fun k _ hk hj=>?_
 have hw:=wrap64 (n:=(k:Int)+1) (by omega) (by omega)
 have hj' : iG iw t.arrays k:=by rw[hJ] at hj; exact hj
 by_cases h1:k<t.arrays.length
 ·have no:iw t.arrays[k]=false→B=false:=fun h=>hB ▸ uY h1 h
  have yes:iw t.arrays[k]=true→J (k+1) ():=fun h=>by rw[hJ]; exact hj'.step h1 h
  have hs:iw t.arrays[k]=(decide (0≤t.arrays[k].min)&&decide (-1≤t.arrays[k].max)&&(decide (t.arrays[k].max<0)||decide (t.arrays[k].min≤t.arrays[k].max))&&ak t.arrays[k].item&&(never t.arrays[k].item == decide (t.arrays[k].max=0))):=by
   cases t.arrays[k]; rfl
  have ih':=ih t.arrays[k] (List.getElem_mem h1)
  by_cases g1:t.arrays[k].min<0
  ·have g1' : ¬ 0≤t.arrays[k].min:=by omega
   simp[h1,g1,no (by rw[hs]; simp[g1'])]
  by_cases g2:t.arrays[k].max < -1
  ·have g2' : ¬ -1≤t.arrays[k].max:=by omega
   simp[h1,g1,g2,no (by rw[hs]; simp[g2'])]
  have g1' : 0≤t.arrays[k].min:=by omega
  have g2' : -1≤t.arrays[k].max:=by omega
  by_cases g34:0≤t.arrays[k].max∧t.arrays[k].max<t.arrays[k].min
  ·obtain⟨g3,g4⟩:=g34
   have g3' : ¬ t.arrays[k].max<0:=by omega
   have g4' : ¬ t.arrays[k].min≤t.arrays[k].max:=by omega
   simp[h1,g1,g2,g3,g4,no (by rw[hs]; simp[g3',g4'])]
  have g6:(decide (t.arrays[k].max<0)||decide (t.arrays[k].min≤t.arrays[k].max))=true:=by simp; omega
  rw[g6,decide_eq_true g1',decide_eq_true g2'] at hs
  by_cases g3:0≤t.arrays[k].max
  rotate_left
  ·have g5:¬ t.arrays[k].max=0:=by omega
   simp[h1,g1,g2,g3]
   intros
   refine aH.ret ih' ?_
   cases hf:ak t.arrays[k].item
   ·simp[h1,g1,g2,g3,no (by rw[hs,hf]; simp)]
   ·simp[h1,g1,g2,g3]
    refine aH.ret (acU t.arrays[k].item) ?_
    rw[hf] at hs
    cases hn:never t.arrays[k].item<;>rw[hn] at hs
    ·simp[g5,h1,hw]
     exact⟨(),yes (by rw[hs]; simp[g5])⟩
    ·simp[g5,h1,no (by rw[hs]; simp[g5])]
  ·have g4:¬ t.arrays[k].max<t.arrays[k].min:=by omega
   simp[h1,g1,g2,g3,g4]
   intros
   refine aH.ret ih' ?_
   cases hf:ak t.arrays[k].item
   ·simp[h1,g1,g2,g3,g4,no (by rw[hs,hf]; simp)]
   ·simp[h1,g1,g2,g3,g4]
    refine aH.ret (acU t.arrays[k].item) ?_
    rw[hf] at hs
    by_cases g5:t.arrays[k].max=0
    ·cases hn:never t.arrays[k].item<;>rw[hn] at hs
     ·simp[g5,h1,no (by rw[hs]; simp[g5])]
     ·simp[g5,h1,hw]
      exact⟨(),yes (by rw[hs]; simp[g5])⟩
    ·cases hn:never t.arrays[k].item<;>rw[hn] at hs
     ·simp[g5,h1,hw]
      exact⟨(),yes (by rw[hs]; simp[g5])⟩
     ·simp[g5,h1,no (by rw[hs]; simp[g5])]
 ·have:B=true:=by rw[← hB]; exact hj'.all h1
  simp[h1,this]
  omega
set_option maxHeartbeats 4000000 in
theorem awE (t:Ty) (ih:∀ o∈t.objects,∀ f∈o.fields,Ret prog M.jG [.agg (cT f)] (.bool (ak f))) (ihr:∀ o∈t.objects,Ret prog M.jG [.agg (cT o.rest)] (.bool (ak o.rest))):Ret prog M.yg [.agg (cT t)] (.bool (t.objects.all bf)):=by
 refine Ret.go ah agX (by simp) fun hb w0 F0 hG=>?_
 simp only[fu,gQ,List.length_map,LIM,and_true] at hb
 generalize hB:t.objects.all bf=B
 simp
 intro v
 obtain⟨J,hJ⟩ : ∃ J:Nat→Unit→Prop,J=fun k _=>iG bf t.objects k:=⟨_,rfl⟩
 refine aU.cnt ah t.objects.length (fun k _=>⟨[(10,.int .i64 k),(9,.int .i64 t.objects.length),(8,.vec 12 false (t.objects.map av)),(1,.ptr (1,v) 9 0 0)],[((1,v),some ⟨9,[cT t],false,true⟩)]⟩) J () (by rw[hJ]; exact .zero) (by simp) fun k _ hk hj=>?_
 have hw:=wrap64 (n:=(k:Int)+1) (by omega) (by omega)
 have hj' : iG bf t.objects k:=by rw[hJ] at hj; exact hj
 by_cases h1:k<t.objects.length
 ·have no:bf t.objects[k]=false→B=false:=fun h=>hB ▸ uY h1 h
  have yes:bf t.objects[k]=true→J (k+1) ():=fun h=>by rw[hJ]; exact hj'.step h1 h
  have hO:bf t.objects[k]=(decide (t.objects[k].names.length=t.objects[k].fields.length)&&decide (t.objects[k].names.length=t.objects[k].must.length)&&jh t.objects[k].names&&ak t.objects[k].rest&&O9 t.objects[k].fields&&(t.objects[k].fields.zip t.objects[k].must).all (fun p=>!p.2||!never p.1)):=by
   cases t.objects[k]; rfl
  have ih':=ih _ (List.getElem_mem h1)
  have ihr':=ihr _ (List.getElem_mem h1)
  have hbf:t.objects[k].fields.length≤140737488355328:=by
   have:=Jr hb.2.2.2.2.2.2.2.2.2 t.objects[k] (List.getElem_mem h1)
   simp only[qM,fu,gQ,List.length_map,LIM,and_true] at this
   omega
  generalize hoo:t.objects[k]=o at *
  by_cases g1:o.names.length=o.fields.length
  rotate_left
  ·have g1' : ¬ (o.names.length:Int)=o.fields.length:=by omega
   simp[h1,hoo,g1,g1',no (by rw[hO]; simp[g1])]
  have g1' : (o.names.length:Int)=o.fields.length:=by omega
  by_cases g2:o.names.length=o.must.length
  rotate_left
  ·have g2' : ¬ (o.names.length:Int)=o.must.length:=by omega
   simp[h1,hoo,← g1,g2,g2',no (by rw[hO]; simp[g2])]
  have g2' : (o.names.length:Int)=o.must.length:=by omega
  simp[h1,hoo,← g1,← g2]
  intro v4
  refine aj.ret (ajQ o.names) ?_
  cases hr:jh o.names
  ·simp[no (by rw[hO,hr]; simp)]
  simp
  refine aj.ret ihr' ?_
  cases hf:ak o.rest
  ·simp[no (by rw[hO,hf]; simp)]
  simp
  rw[decide_eq_true g1,decide_eq_true g2,hr,hf,Oo] at hO
  obtain⟨J',hJ'⟩ : ∃ J:Nat→Unit→Prop,J=fun i _=>iG ak o.fields i∧iG (fun p:Ty × Bool=>!p.2||!never p.1) (o.fields.zip o.must) i:=⟨_,rfl⟩
  refine aU.cnt ah o.fields.length (fun i _=>⟨[(45,.int .i64 i),(44,.int .i64 o.fields.length),(43,.vec 9 false (o.fields.map eU)),(4,.ptr (4,v4) 12 0 0),(10,.int .i64 k),(9,.int .i64 t.objects.length),(8,.vec 12 false (t.objects.map av)),(1,.ptr (1,v) 9 0 0)],[((4,v4),some ⟨12,[cO o],false,true⟩),((1,v),some ⟨9,[cT t],false,true⟩)]⟩) J' () (by rw[hJ']; exact⟨.zero,.zero⟩) (by simp[g1]) fun i _ hi hji=>?_
  have hw2:=wrap64 (n:=(i:Int)+1) (by omega) (by omega)
  obtain⟨j1,j2⟩ : iG ak o.fields i∧iG (fun p:Ty × Bool=>!p.2||!never p.1) (o.fields.zip o.must) i:=by rw[hJ'] at hji; exact hji
  by_cases h2:i<o.fields.length
  ·have h3:i<o.must.length:=by omega
   have h4:i<(o.fields.zip o.must).length:=by simp; omega
   have hz:(o.fields.zip o.must)[i]=(o.fields[i],o.must[i]):=by simp
   cases e2:o.must[i]
   ·simp[h2,h3,e2]
    intros
    refine aj.ret (ih' o.fields[i] (List.getElem_mem h2)) ?_
    cases e1:ak o.fields[i]
    ·simp[h2,h3,e2,no (by rw[hO,uY h2 e1]; simp)]
    ·simp[h2,h3,e2,hw2]
     exact⟨(),by rw[hJ']; exact⟨j1.step h2 e1,j2.step h4 (by rw[hz]; simp[e2])⟩⟩
   ·simp[h2,h3,e2]
    intros
    refine aj.ret (ih' o.fields[i] (List.getElem_mem h2)) ?_
    cases e1:ak o.fields[i]
    ·simp[h2,h3,e2,no (by rw[hO,uY h2 e1]; simp)]
    ·simp[h2,h3,e2]
     refine aj.ret (acU o.fields[i]) ?_
     cases e3:never o.fields[i]
     ·simp[hw2,h2]
      exact⟨(),by rw[hJ']; exact⟨j1.step h2 e1,j2.step h4 (by rw[hz]; simp[e3])⟩⟩
     ·simp[no (by rw[hO,uY h4 (by rw[hz]; simp[e2,e3])]; simp)]
  ·simp[h2,hw,h1]
   exact⟨(),yes (by rw[hO,j1.all h2,j2.all (by simp; omega)]; rfl)⟩
 ·have:B=true:=by rw[← hB]; exact hj'.all h1
  simp[h1,this]
set_option maxHeartbeats 4000000 in
theorem alS (t:Ty) (hA:Ret prog M.za [.agg (cT t)] (.bool (decide (t.arrays.length≤1)&&t.arrays.all iw))) (hO:Ret prog M.yg [.agg (cT t)] (.bool (t.objects.all bf))):Ret prog M.jG [.agg (cT t)] (.bool (ak t)):=by
 refine Ret.go ah atd (by simp) fun hb w0 F0 hG=>?_
 have hs:ak t=((!t.all||bare t)&&(decide (t.nums.length≤1)&&t.nums.all jq)&&(jh t.texts&&(!t.any||t.texts.isEmpty))&&(decide (t.arrays.length≤1)&&t.arrays.all iw)&&t.objects.all bf):=by
  cases t
  simp only[ak,Ow,NU,Ty.all_mk,Ty.adB,Ty.rU,Ty.any_mk,Ty.sw,Ty.qz]
  rw[Bool.eq_iff_iff]
  simp only[Bool.and_eq_true]
  constructor
  ·rintro⟨⟨⟨⟨⟨⟨⟨h1,h2⟩,h3⟩,h4⟩,h5⟩,h6⟩,h7⟩,h8⟩; exact⟨⟨⟨⟨h1,h4,h5⟩,h2,h3⟩,h6,h7⟩,h8⟩
  ·rintro⟨⟨⟨⟨h1,h4,h5⟩,h2,h3⟩,h6,h7⟩,h8⟩; exact⟨⟨⟨⟨⟨⟨⟨h1,h2⟩,h3⟩,h4⟩,h5⟩,h6⟩,h7⟩,h8⟩
 generalize ak t=B at *
 simp
 intro v1 v2
 refine aU.rnd ah (.s (.s (.s (.s (.s (.s .z)))))) ?_
 simp only[l9]
 have w1:IntKind.i64.wrap 1=1:=wrap64 (by omega) (by omega)
 have w2:IntKind.i64.wrap 2=2:=wrap64 (by omega) (by omega)
 have w3:IntKind.i64.wrap 3=3:=wrap64 (by omega) (by omega)
 have w4:IntKind.i64.wrap 4=4:=wrap64 (by omega) (by omega)
 have w5:IntKind.i64.wrap 5=5:=wrap64 (by omega) (by omega)
 simp
 refine aj.ret (ai2 t) ?_
 cases e1:(!t.all||bare t)<;>rw[e1] at hs
 ·simp[hs]
 simp[w1,l9]
 refine aj.ret (akn t) ?_
 cases e2:(decide (t.nums.length≤1)&&t.nums.all jq)<;>rw[e2] at hs
 ·simp[hs]
 simp[w2,l9]
 refine aj.ret (aiW t) ?_
 cases e3:(jh t.texts&&(!t.any||t.texts.isEmpty))<;>rw[e3] at hs
 ·simp[hs]
 simp[w3,l9]
 refine aj.ret hA ?_
 cases e4:(decide (t.arrays.length≤1)&&t.arrays.all iw)<;>rw[e4] at hs
 ·simp[hs]
 simp[w4,l9]
 refine aj.ret hO ?_
 cases e5:t.objects.all bf<;>rw[e5] at hs
 ·simp[hs]
 simp[w5,l9,hs]
theorem sU (t:Ty):Ret prog M.jG [.agg (cT t)] (.bool (ak t)):=by
 induction hn:SizeOf.sizeOf t using Nat.strongRecOn generalizing t with
 | _ n ih =>
   subst hn
   exact alS t (azk t fun a ha=>ih _ (yc ha) a.item rfl) (awE t (fun o ho f hf=>ih _ (uh ho hf) f rfl) fun o ho=>ih _ (uQ ho) o.rest rfl)
end Go.Proofs.YtfilonnphgnplaaGreatDoor.Pv
set_option maxRecDepth 100000
namespace Go.Proofs.YtfilonnphgnplaaGreatDoor.Pv
open Go Go.Tidy
set_option maxHeartbeats 4000000 in
theorem azq (t:Ty) (ht:ay t<2 ^ 62) (ha:∀ a∈t.arrays,Ret prog M.o7 [.agg (cT a.item)] (.int .i64 (ay a.item:Nat)))
 (hr:∀ o∈t.objects,Ret prog M.o7 [.agg (cT o.rest)] (.int .i64 (ay o.rest:Nat)))
 (hf:∀ o∈t.objects,∀ x∈o.fields,Ret prog M.o7 [.agg (cT x)] (.int .i64 (ay x:Nat))) :
 Ret prog M.o7 [.agg (cT t)] (.int .i64 (ay t:Nat)):=by
 refine Ret.go ah asQ (by simp) fun hb w0 F0 hG=>?_
 simp only[fu,gQ,List.length_map,LIM,and_true] at hb
 have hd:=aa8 t
 generalize ay t=H at *
 simp
 intro v
 obtain⟨J,hJ⟩ : ∃ J:Nat→Nat→Prop,J=fun k m=>m=iY (t.arrays.take k):=⟨_,rfl⟩
 refine aU.cnt ah t.arrays.length (fun (k m:Nat)=>⟨[(13,.int .i64 k),(12,.int .i64 t.arrays.length),(11,.vec 11 false (t.arrays.map dh)),(3,.int .i64 ((m:Int)-1)),(1,.ptr (1,v) 9 0 0)],[((1,v),some ⟨9,[cT t],false,true⟩)]⟩) J 0 (by simp[hJ,iY]) (by simp) fun k m hk hj=>?_
 have hw:=wrap64 (n:=(k:Int)+1) (by omega) (by omega)
 have hj' : m=iY (t.arrays.take k):=by rw[hJ] at hj; exact hj
 by_cases h1:k<t.arrays.length
 ·simp[h1]
  intro v5
  refine aj.ret (ha t.arrays[k] (List.getElem_mem h1)) ?_
  simp[hw]
  refine⟨h1,max m (ay t.arrays[k].item+1),?_,?_⟩
  ·rw[hJ]
   show _=iY _
   rw[abV h1,hj']
  ·omega
 ·have hm:m=iY t.arrays:=by rw[hj',List.take_of_length_le (by omega)]
  simp[h1]
  clear hj hj' hJ J
  obtain⟨J,hJ⟩ : ∃ J:Nat→Nat→Prop,J=fun k n=>n=max m (jd (t.objects.take k)):=⟨_,rfl⟩
  refine aU.cnt ah t.objects.length (fun (k n:Nat)=>⟨[(26,.int .i64 k),(25,.int .i64 t.objects.length),(24,.vec 12 false (t.objects.map av)),(3,.int .i64 ((n:Int)-1)),(1,.ptr (1,v) 9 0 0)],[((1,v),some ⟨9,[cT t],false,true⟩)]⟩) J m (by simp[hJ,jd]) (by simp) fun i n hi hj=>?_
  have hw:=wrap64 (n:=(i:Int)+1) (by omega) (by omega)
  have hj' : n=max m (jd (t.objects.take i)):=by rw[hJ] at hj; exact hj
  by_cases h2:i<t.objects.length
  ·simp[h2]
   intro v7
   refine aj.ret (hr t.objects[i] (List.getElem_mem h2)) ?_
   simp
   generalize ho:t.objects[i]=o at *
   have hm2:o∈t.objects:=ho ▸ List.getElem_mem h2
   obtain⟨J',hJ'⟩ : ∃ J:Nat→Nat→Prop,J=fun j p=>p=max (max n (ay o.rest+1)) (jI (o.fields.take j)):=⟨_,rfl⟩
   refine aU.cnt ah o.fields.length (fun (j p:Nat)=>⟨[(38,.int .i64 j),(37,.int .i64 o.fields.length),(36,.vec 9 false (o.fields.map eU)),(3,.int .i64 ((p:Int)-1)),(26,.int .i64 i),(25,.int .i64 t.objects.length),(24,.vec 12 false (t.objects.map av)),(1,.ptr (1,v) 9 0 0)],[((1,v),some ⟨9,[cT t],false,true⟩)]⟩) J' (max n (ay o.rest+1)) (by simp[hJ',jI]) (by simp; omega) fun j p hj2 hjj=>?_
   have hbo:o.fields.length≤140737488355328:=by
    have:=Jr hb.2.2.2.2.2.2.2.2.2 o hm2
    simp only[qM,fu,gQ,List.length_map,LIM,and_true] at this
    omega
   have hw':=wrap64 (n:=(j:Int)+1) (by omega) (by omega)
   have hjj' : p=max (max n (ay o.rest+1)) (jI (o.fields.take j)):=by rw[hJ'] at hjj; exact hjj
   by_cases h3:j<o.fields.length
   ·simp[h2,h3]
    intro v9
    refine aj.ret (hf o hm2 o.fields[j] (List.getElem_mem h3)) ?_
    simp[hw']
    refine⟨h3,max p (ay o.fields[j]+1),?_,?_⟩
    ·rw[hJ']
     show _=max _ (jI _)
     rw[ab3 h3,hjj']
     omega
    ·omega
   ·have hp:p=max (max n (ay o.rest+1)) (jI o.fields):=by rw[hjj',List.take_of_length_le (by omega)]
    simp[h2,h3,hw]
    refine⟨p,?_,rfl⟩
    rw[hJ]
    show _=max _ (jd _)
    rw[acr h2,hp,hj',ho]
    omega
  ·have hn:n=H:=by rw[hj',List.take_of_length_le (by omega),hd,hm]
   have w1:=wrap64 (n:=(H:Int)) (by omega) (by omega)
   simp[h2,hn,w1]
theorem atg (t:Ty) (ht:ay t<2 ^ 62):Ret prog M.o7 [.agg (cT t)] (.int .i64 (ay t:Nat)):=by
 induction hn:SizeOf.sizeOf t using Nat.strongRecOn generalizing t with
 | _ n ih =>
   subst hn
   have hd:=aa8 t
   refine azq t ht (fun a ha=>?_) (fun o ho=>?_) fun o ho x hx=>?_
   ·have:=ajM ha
    have h2:ay a.item<2 ^ 62:=by omega
    exact ih _ (yc ha) a.item h2 rfl
   ·have:=(XU ho).1
    have h2:ay o.rest<2 ^ 62:=by omega
    exact ih _ (uQ ho) o.rest h2 rfl
   ·have h3:=(XU ho).2
    have h4:=akH hx
    have h2:ay x<2 ^ 62:=by omega
    exact ih _ (uh ho hx) x h2 rfl
end Go.Proofs.YtfilonnphgnplaaGreatDoor.Pv
set_option maxRecDepth 100000
namespace Go.Proofs.YtfilonnphgnplaaGreatDoor.Pv
open Go Go.Tidy
theorem sW (fl:Bool) (xs:List (List PV)) (hx:xs.length≤68719476736):iQ prog M.r9 [.vec 1 fl xs] 1 xs:=by
 refine iQ.go ah agV (by simp) fun hb w0 F0 hG=>?_
 simp
 omega
theorem aai (fl:Bool) (xs:List (List PV)) (hx:xs.length≤68719476736):iQ prog M.LU [.vec 1 fl xs] 1 xs:=by
 refine iQ.go ah ajj (by simp) fun hb w0 F0 hG=>?_
 simp
 omega
theorem aah (fl:Bool) (xs:List (List PV)) (hx:xs.length≤68719476736):iQ prog M.MG [.vec 2 fl xs] 2 xs:=by
 refine iQ.go ah ajt (by simp) fun hb w0 F0 hG=>?_
 simp
 omega
theorem abq (fl:Bool) (xs:List (List PV)) (hx:xs.length≤68719476736):iQ prog M.OG [.vec 11 fl xs] 11 xs:=by
 refine iQ.go ah ak2 (by simp) fun hb w0 F0 hG=>?_
 simp
 omega
theorem OO (fl:Bool) (xs:List (List PV)) (hx:xs.length≤68719476736):iQ prog M.AU [.vec 12 fl xs] 12 xs:=by
 refine iQ.go ah aki (by simp) fun hb w0 F0 hG=>?_
 simp
 omega
theorem aag (fl:Bool) (xs:List (List PV)) (hx:xs.length≤68719476736):iQ prog M.Mg [.vec 9 fl xs] 9 xs:=by
 refine iQ.go ah aiT (by simp) fun hb w0 F0 hG=>?_
 simp
 omega
theorem ahe (n:Nat) (hn:n≤34359738368):iQ prog M.Jf [.vec 1 true [],.int .i64 n] 1 []:=by
 refine iQ.go ah aif (by simp) fun hb w0 F0 hG=>?_
 have h0:¬ (n:Int)<0:=by omega
 have w1:=wrap64 (n:=(n:Int)) (by omega) (by omega)
 have w2:=wrap64 (n:=0) (by omega) (by omega)
 by_cases h1:0<n
 ·have h1' : (0:Int)<n:=by omega
  have h2:(1:Int)≤n:=by omega
  have h3:(n:Int)≤34359738368:=by omega
  simp
  refine bQ.go ah ?_
  simp[h0]
  refine bQ.go ah ?_
  simp[h0,h1,h1',h2,h3,w1,w2]
 ·obtain rfl:n=0:=by omega
  simp
  refine bQ.go ah ?_
  simp
  refine bQ.go ah ?_
  simp[w2]
theorem akr (n:Nat) (hn:n≤34359738368):iQ prog M.OU [.vec 2 true [],.int .i64 n] 2 []:=by
 refine iQ.go ah ajY (by simp) fun hb w0 F0 hG=>?_
 have h0:¬ (n:Int)<0:=by omega
 have w1:=wrap64 (n:=(n:Int)) (by omega) (by omega)
 have w2:=wrap64 (n:=0) (by omega) (by omega)
 by_cases h1:0<n
 ·have h1' : (0:Int)<n:=by omega
  have h2:(1:Int)≤n:=by omega
  have h3:(n:Int)≤34359738368:=by omega
  simp
  refine bQ.go ah ?_
  simp[h0]
  refine bQ.go ah ?_
  simp[h0,h1,h1',h2,h3,w1,w2]
 ·obtain rfl:n=0:=by omega
  simp
  refine bQ.go ah ?_
  simp
  refine bQ.go ah ?_
  simp[w2]
theorem amr (n:Nat) (hn:n≤34359738368):iQ prog M.R9 [.vec 11 true [],.int .i64 n] 11 []:=by
 refine iQ.go ah amx (by simp) fun hb w0 F0 hG=>?_
 have h0:¬ (n:Int)<0:=by omega
 have w1:=wrap64 (n:=(n:Int)) (by omega) (by omega)
 have w2:=wrap64 (n:=0) (by omega) (by omega)
 by_cases h1:0<n
 ·have h1' : (0:Int)<n:=by omega
  have h2:(1:Int)≤n:=by omega
  have h3:(n:Int)≤34359738368:=by omega
  simp
  refine bQ.go ah ?_
  simp[h0]
  refine bQ.go ah ?_
  simp[h0,h1,h1',h2,h3,w1,w2]
 ·obtain rfl:n=0:=by omega
  simp
  refine bQ.go ah ?_
  simp
  refine bQ.go ah ?_
  simp[w2]
theorem alU (n:Nat) (hn:n≤34359738368):iQ prog M.QW [.vec 12 true [],.int .i64 n] 12 []:=by
 refine iQ.go ah amq (by simp) fun hb w0 F0 hG=>?_
 have h0:¬ (n:Int)<0:=by omega
 have w1:=wrap64 (n:=(n:Int)) (by omega) (by omega)
 have w2:=wrap64 (n:=0) (by omega) (by omega)
 by_cases h1:0<n
 ·have h1' : (0:Int)<n:=by omega
  have h2:(1:Int)≤n:=by omega
  have h3:(n:Int)≤34359738368:=by omega
  simp
  refine bQ.go ah ?_
  simp[h0]
  refine bQ.go ah ?_
  simp[h0,h1,h1',h2,h3,w1,w2]
 ·obtain rfl:n=0:=by omega
  simp
  refine bQ.go ah ?_
  simp
  refine bQ.go ah ?_
  simp[w2]
theorem afV (f1 f2:Bool) (a b:List (List PV)) (hn:a.length+b.length≤34359738368):iQ prog M.DN [.vec 1 false [[.vec 1 f1 a],[.vec 1 f2 b]]] 1 (a++b):=by
 refine iQ.go ah afS (by simp) fun hb w0 F0 hG=>?_
 have h0:¬ (a.length:Int)<0:=by omega
 have h0' : ¬ ((a.length:Int)+b.length)<0:=by omega
 have w1:=wrap64 (n:=(a.length:Int)) (by omega) (by omega)
 have w2:=wrap64 (n:=(a.length:Int)+b.length) (by omega) (by omega)
 have k1:=wrap64 (n:=1) (by omega) (by omega)
 have k2:=wrap64 (n:=2) (by omega) (by omega)
 have hc:=ahe (a.length+b.length) (by omega)
 rw[show (((a.length+b.length:Nat)):Int)=(a.length:Int)+b.length by omega] at hc
 simp
 refine aU.rnd ah (.s (.s (.s .z))) ?_
 simp[l9]
 refine bQ.go ah ?_
 simp[h0,w1,k1,k2,l9]
 refine bQ.go ah ?_
 simp[h0',w1,w2,k1,k2,l9]
 refine aj.afs (by simp[ahB,Qj]) hc fun v hv=>?_
 simp
 refine aU.rnd ah (.s (.s (.s .z))) ?_
 simp[k1,k2,l9]
 have q1:a.length≤68719476736:=by omega
 have q2:a.length+b.length≤68719476736:=by omega
 simp[q1,q2]
 exact List.take_of_length_le (by simp)
theorem ahR (f1 f2:Bool) (a b:List (List PV)) (hn:a.length+b.length≤34359738368):iQ prog M.Jg [.vec 1 false [[.vec 2 f1 a],[.vec 2 f2 b]]] 2 (a++b):=by
 refine iQ.go ah ahF (by simp) fun hb w0 F0 hG=>?_
 have h0:¬ (a.length:Int)<0:=by omega
 have h0' : ¬ ((a.length:Int)+b.length)<0:=by omega
 have w1:=wrap64 (n:=(a.length:Int)) (by omega) (by omega)
 have w2:=wrap64 (n:=(a.length:Int)+b.length) (by omega) (by omega)
 have k1:=wrap64 (n:=1) (by omega) (by omega)
 have k2:=wrap64 (n:=2) (by omega) (by omega)
 have hc:=akr (a.length+b.length) (by omega)
 rw[show (((a.length+b.length:Nat)):Int)=(a.length:Int)+b.length by omega] at hc
 simp
 refine aU.rnd ah (.s (.s (.s .z))) ?_
 simp[l9]
 refine bQ.go ah ?_
 simp[h0,w1,k1,k2,l9]
 refine bQ.go ah ?_
 simp[h0',w1,w2,k1,k2,l9]
 refine aj.afs (by simp[ahB,Qj]) hc fun v hv=>?_
 simp
 refine aU.rnd ah (.s (.s (.s .z))) ?_
 simp[k1,k2,l9]
 have q1:a.length≤68719476736:=by omega
 have q2:a.length+b.length≤68719476736:=by omega
 simp[q1,q2]
 exact List.take_of_length_le (by simp)
theorem aiU (f1 f2:Bool) (a b:List (List PV)) (hn:a.length+b.length≤34359738368):iQ prog M.Mq [.vec 1 false [[.vec 11 f1 a],[.vec 11 f2 b]]] 11 (a++b):=by
 refine iQ.go ah ai0 (by simp) fun hb w0 F0 hG=>?_
 have h0:¬ (a.length:Int)<0:=by omega
 have h0' : ¬ ((a.length:Int)+b.length)<0:=by omega
 have w1:=wrap64 (n:=(a.length:Int)) (by omega) (by omega)
 have w2:=wrap64 (n:=(a.length:Int)+b.length) (by omega) (by omega)
 have k1:=wrap64 (n:=1) (by omega) (by omega)
 have k2:=wrap64 (n:=2) (by omega) (by omega)
 have hc:=amr (a.length+b.length) (by omega)
 rw[show (((a.length+b.length:Nat)):Int)=(a.length:Int)+b.length by omega] at hc
 simp
 refine aU.rnd ah (.s (.s (.s .z))) ?_
 simp[l9]
 refine bQ.go ah ?_
 simp[h0,w1,k1,k2,l9]
 refine bQ.go ah ?_
 simp[h0',w1,w2,k1,k2,l9]
 refine aj.afs (by simp[ahB,Qj]) hc fun v hv=>?_
 simp
 refine aU.rnd ah (.s (.s (.s .z))) ?_
 simp[k1,k2,l9]
 have q1:a.length≤68719476736:=by omega
 have q2:a.length+b.length≤68719476736:=by omega
 simp[q1,q2]
 exact List.take_of_length_le (by simp)
theorem ai7 (f1 f2:Bool) (a b:List (List PV)) (hn:a.length+b.length≤34359738368):iQ prog M.MH [.vec 1 false [[.vec 12 f1 a],[.vec 12 f2 b]]] 12 (a++b):=by
 refine iQ.go ah ai6 (by simp) fun hb w0 F0 hG=>?_
 have h0:¬ (a.length:Int)<0:=by omega
 have h0' : ¬ ((a.length:Int)+b.length)<0:=by omega
 have w1:=wrap64 (n:=(a.length:Int)) (by omega) (by omega)
 have w2:=wrap64 (n:=(a.length:Int)+b.length) (by omega) (by omega)
 have k1:=wrap64 (n:=1) (by omega) (by omega)
 have k2:=wrap64 (n:=2) (by omega) (by omega)
 have hc:=alU (a.length+b.length) (by omega)
 rw[show (((a.length+b.length:Nat)):Int)=(a.length:Int)+b.length by omega] at hc
 simp
 refine aU.rnd ah (.s (.s (.s .z))) ?_
 simp[l9]
 refine bQ.go ah ?_
 simp[h0,w1,k1,k2,l9]
 refine bQ.go ah ?_
 simp[h0',w1,w2,k1,k2,l9]
 refine aj.afs (by simp[ahB,Qj]) hc fun v hv=>?_
 simp
 refine aU.rnd ah (.s (.s (.s .z))) ?_
 simp[k1,k2,l9]
 have q1:a.length≤68719476736:=by omega
 have q2:a.length+b.length≤68719476736:=by omega
 simp[q1,q2]
 exact List.take_of_length_le (by simp)
end Go.Proofs.YtfilonnphgnplaaGreatDoor.Pv
set_option maxRecDepth 100000
namespace Go.Proofs.YtfilonnphgnplaaGreatDoor.Pv
open Go Go.Tidy
theorem uy (o:Ob):Ret prog M.qX [.agg (cO o)] (.agg (cT (eu o))):=by
 refine Ret.go ah azy (by simp) fun hb w0 F0 hG=>?_
 simp[eu,qM]
theorem awg (a b:S) (ha:gu a=true) (hb' : gu b=true):Ret prog M.acG [.str a,.str b] (.str (adT a b)):=by
 refine Ret.go ah axH (by simp) fun hb w0 F0 hG=>?_
 unfold adT
 rw[aqy]
 have hc:=ac7 a b
 simp
 refine aj.ret hc ?_
 cases e1:fU a
 ·cases e2:fU b
  ·have n1:=gy ha e1
   have n2:=gy hb' e2
   cases fQ a b<;>simp[e1,e2,n1,n2,dX]
  ·simp[e1,e2]
   exact wh.1 e2
 ·simp[e1]
  exact wh.1 e1
theorem asw (a b:S) (ha:gu a=true) (hb' : gu b=true):Ret prog M.aay [.str a,.str b] (.str (ZM a b)):=by
 refine Ret.go ah arI (by simp) fun hb w0 F0 hG=>?_
 unfold ZM
 rw[aqy]
 have hc:=ac7 a b
 simp
 refine aj.ret hc ?_
 cases e1:fU a
 ·cases e2:fU b
  ·have n1:=gy ha e1
   have n2:=gy hb' e2
   cases fQ a b<;>simp[e1,e2,n1,n2,dX]
  ·simp[e1,e2]
   exact wh.1 e2
 ·simp[e1]
  exact wh.1 e1
theorem azM (a b:List Span) (ha:∀ s∈a,jq s=true) (hb' : ∀ s∈b,jq s=true) (hl:a.length+b.length≤34359738368) :
 Ret prog M.aer [.vec 2 false (a.map dH),.vec 2 false (b.map dH)] (.vec 2 false ((yT a b).map dH)):=by
 refine Ret.go ah aA4 (by simp) fun hb w0 F0 hG=>?_
 have hc:=ahR false false (a.map dH) (b.map dH) (by simpa using hl)
 cases a with
 | nil =>
   simp
   intros
   refine aj.ru (by simpa using hc) ?_
   intro v hv
   simp[yT]
 | cons x a =>
   cases b with
   | nil =>
     simp
     intros
     refine aj.ru (by simpa using hc) ?_
     intro v hv
     simp[yT]
   | cons y b =>
     have h1:=abQ.1 (ha x (by simp))
     have h2:=abQ.1 (hb' y (by simp))
     have q:¬ ((a.length:Int)+1=0):=by omega
     have q' : ¬ ((b.length:Int)+1=0):=by omega
     have q2:(0:Int)<(a.length:Int)+1:=by omega
     have q3:(0:Int)<(b.length:Int)+1:=by omega
     simp[q,q',q2,q3]
     intros
     refine aH.ret (awg x.low y.low h1.1 h2.1) ?_
     simp[q,q',q2,q3]
     refine aH.ret (asw x.high y.high h1.2.1 h2.2.1) ?_
     simp[q,q',q2,q3,yT]
theorem alM (a b:S):Ret prog M.Rz [.str a,.str b] (.bool (sLt a b)):=by
 refine Ret.go ah amv (by simp) fun hb w0 F0 hG=>?_
 simp
 refine aj.ret (Ou a) ?_
 simp
theorem agU (a:S):Ret prog M.yh [.str a] (.bool false):=by
 refine Ret.go ah agd (by simp) fun hb w0 F0 hG=>?_
 simp[sEq]
end Go.Proofs.YtfilonnphgnplaaGreatDoor.Pv

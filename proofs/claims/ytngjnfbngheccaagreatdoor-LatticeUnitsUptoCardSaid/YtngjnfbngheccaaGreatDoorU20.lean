/- Part 20. -/
import Derived.Test.YtngjnfbngheccaaGreatDoorU18
import Derived.ProofKit
import Derived.Lib.LaidU8
import Derived.Lib.LaidU8T
import Derived.PinnedBridge
import Derived.Test.YtngjnfbngheccaaGreatDoorRows
import Derived.Deep.DeepHandedRow
import Derived.LaidLaws
set_option linter.unusedSimpArgs false
set_option linter.unusedVariables false
namespace Go.Proofs.YtngjnfbngheccaaGreatDoor.Pv
open Go Go.Tidy Go.RowKit
def aoo (P:Program) (t:TypeId):Option (List (TypeId × Nat)):=match P.underlying t with
 | some (.struct fs)=>some (fs.toList.map fun f=>(f.type,f.offset))
 | _=>none
structure Tys (P:Program):Prop where
 b:P.underlying 4=some .bool
 i:P.underlying 3=some (.int .i64)
 s:P.underlying 9=some .string
 l25:P.underlying 22=some (.slice 39)
 l26:P.underlying 23=some (.slice 9)
 l27:P.underlying 24=some (.slice 59)
 l28:P.underlying 25=some (.slice 70)
 l54:P.underlying 67=some (.slice 27)
 l55:P.underlying 68=some (.slice 4)
 c:∀ e∈[4,3,9,22,23,24,25,67,68],P.cellsOf e=1
 c30:P.cellsOf 27=9
 c57:P.cellsOf 70=12
 c98:P.cellsOf 59=11
 c106:P.cellsOf 39=2
 ty:aoo P 27=some [(4,0),(4,1),(4,2),(4,3),(22,4),(4,5),(23,6),(24,7),(25,8)]
 ob:aoo P 70=some [(23,0),(67,1),(68,2),(27,3)]
 ar:aoo P 59=some [(27,0),(3,9),(3,10)]
 sp:aoo P 39=some [(9,0),(9,1)]
 bytes:∀ e∈[39,9,59,70,27,4],1≤P.bytesOf e
def wOk {H:Type} (P:Program) (t:TypeId) (d:DataW H):Prop:=∀ n∈d.weights P t,n≤reachBytes
mutual
def bkD {H:Type}:DataW H→Nat
 | .lit (.string b)=>b.length+1
 | .lit _=>1
 | .nil=>1
 | .ptr d=>bkD d+1
 | .slice l m=>adv l+adv m+1
 | .agg l=>adv l+1
 | .iface _ d=>bkD d+1
 | .map _=>1
 | .held _=>1
def adv {H:Type}:List (DataW H)→Nat
 | []=>0
 | d::l=>bkD d+adv l
end
theorem Wu {H:Type} (d:DataW H):1≤bkD d:=by
 cases d with
 | lit l=>cases l<;>simp[bkD]
 | nil|ptr _|slice _ _|agg _|iface _ _|map _|held _=>simp[bkD]
def wtL {α:Type} (wt:α→Nat):List α→Nat
 | []=>1
 | x::l=>wt x+wtL wt l
theorem aKQ {α:Type} (wt:α→Nat):∀ l:List α,1≤wtL wt l
 | []=>Nat.le_refl _
 | _::l=>Nat.le_trans (aKQ wt l) (Nat.le_add_left _ _)
section
variable {H:Type} {enc:TypeId × Value→H} {P:Program} {W:World}
abbrev asn (W:World):Nat→Prop:=fun b=>b<W.heap.size
def abm (enc:TypeId × Value→H) (P:Program) (W:World) (k:Nat) (t:TypeId) {α:Type} (f:α→List PV) (wt:α→Nat):Prop :=
 ∀ cs d ps,DataW.trod enc P W 0 (fun _=>true) true k t cs=some (d,ps)→wOk P t d→∃ x:α,aY W (GY (asn W)) (f x) cs∧(∀ u∈cs,u.oneCell'=true)∧wt x≤bkD d
theorem aaO {t:TypeId} {α:Type} {f:α→List PV} {wt:α→Nat}:abm enc P W 0 t f wt:=fun cs d ps h _=>by simp[DataW.trod] at h
theorem alm {c:Ctx} {x:PV} {v:Value} (h:bq W c x v):aY W c [x] [v]:=⟨v,[],rfl,h,rfl⟩
theorem y7 {c:Ctx}:∀ {xs:List PV} {vs:List Value} {ys:List PV} {us:List Value},aY W c xs vs→aY W c ys us→aY W c (xs++ys) (vs++us)
 | [],vs,ys,us,h,k=>by
   have e:vs=[]:=h
   rw[e]; exact k
 | x::xs,vs,ys,us,⟨u,us',e,h1,h2⟩,k=>by
   rw[e]
   exact⟨u,us'++us,rfl,h1,y7 h2 k⟩
theorem ag2 {t:TypeId} (ht:P.underlying t=some .bool):∀ k,abm enc P W k t lU fun _=>1
 | 0=>aaO
 | k+1=>fun cs d ps h _=>by
   unfold DataW.trod at h
   rw[ht] at h
   simp only at h
   split at h
   all_goals (first|(cases h; done)|skip)
   all_goals (simp only[reduceCtorEq,Option.some.injEq] at *)
   rename_i b _
   exact⟨b,alm rfl,by simp[Value.oneCell'],Wu _⟩
theorem avU {t:TypeId} (ht:P.underlying t=some .string):∀ k,abm enc P W k t encStr fun s=>s.data.toList.length+1
 | 0=>aaO
 | k+1=>fun cs d ps h hw=>by
   unfold DataW.trod at h
   rw[ht] at h
   simp only at h
   split at h
   all_goals (first|(cases h; done)|skip)
   all_goals (simp only[reduceCtorEq,Option.some.injEq] at *)
   rename_i s _
   split at h
   ·cases h
    refine⟨s,alm ⟨rfl,?_⟩,by simp[Value.oneCell'],by simp[bkD]⟩
    have:=hw s.data.toList.length (by unfold DataW.weights; exact List.mem_singleton.2 rfl)
    have e:s.size=s.data.toList.length:=rfl
    rw[e]
    unfold LIM
    unfold reachBytes at this
    omega
   ·cases h
theorem aKs {t:TypeId} (ht:P.underlying t=some (.int .i64)):∀ k,abm enc P W k t (fun n:Int=>[PV.int .i64 n]) fun _=>1
 | 0=>aaO
 | k+1=>fun cs d ps h hw=>by
   unfold DataW.trod at h
   rw[ht] at h
   simp only at h
   split at h
   all_goals (first|(cases h; done)|skip)
   all_goals (simp only[reduceCtorEq,Option.some.injEq,TypeDesc.int.injEq] at *)
   rename_i k1 k2 n e
   subst e
   split at h
   ·rename_i hh
    obtain⟨rfl,hh⟩:=hh
    refine⟨n,alm ⟨rfl,?_⟩,by simp[Value.oneCell'],Wu _⟩
    simpa[Lit.wf] using hh
   ·cases h
theorem mapM_some {α β:Type} {f:α→Option β}:∀ {l:List α} {xs:List β},l.mapM f=some xs→xs.length=l.length∧∀ i (h:i<l.length),∃ x,xs[i]? = some x∧f l[i]=some x
 | [],xs,h=>by
   simp at h; subst h
   exact⟨rfl,fun i h=>absurd h (by simp)⟩
 | a::l,xs,h=>by
   simp only[List.mapM_cons,Option.pure_def,Option.bind_eq_bind,Option.bind_eq_some_iff,Option.some.injEq] at h
   obtain⟨x,h1,ys,h2,rfl⟩:=h
   obtain⟨h3,h4⟩:=mapM_some h2
   refine⟨by simp[h3],fun i hi=>?_⟩
   cases i with
   | zero=>exact⟨x,rfl,h1⟩
   | succ i =>
     obtain⟨y,k1,k2⟩:=h4 i (by simpa using hi)
     exact⟨y,by simpa using k1,by simpa using k2⟩
theorem aGJ {P:Program}:∀ {ts:List TypeId} {ds:List (DataW H)} {i:Nat} {t:TypeId} {d:DataW H} {n:Nat},ts[i]? = some t→ds[i]? = some d→n∈d.weights P t→n∈DataW.weightsEach P ts ds
 | [],_,_,_,_,_,h,_,_=>by simp at h
 | _::_,[],_,_,_,_,_,h,_=>by simp at h
 | t::ts,d::ds,0,t',d',n,h1,h2,h3=>by
   simp only[List.getElem?_cons_zero,Option.some.injEq] at h1 h2
   subst h1 h2
   simp only[DataW.weightsEach,List.mem_append]; exact .inl h3
 | t::ts,d::ds,i+1,t',d',n,h1,h2,h3=>by
   simp only[List.getElem?_cons_succ] at h1 h2
   simp only[DataW.weightsEach,List.mem_append]; exact .inr (aGJ h1 h2 h3)
theorem aIq {P:Program} {e:TypeId} {d:DataW H} {n:Nat}:∀ {ds:List (DataW H)},d∈ds→n∈d.weights P e→n∈DataW.weightsAll P e ds
 | [],h,_=>by simp at h
 | d'::ds,h,k=>by
   simp only[DataW.weightsAll,List.mem_append]
   rcases List.mem_cons.1 h with rfl|h
   ·exact .inl k
   ·exact .inr (aIq h k)
theorem ael {k:Nat} {t:TypeId} {fl:List (TypeId × Nat)} {cs:List Value} {d:DataW H} {ps:List MemPlace} (hf:aoo P t=some fl) (h:DataW.trod enc P W 0 (fun _=>true) true (k+1) t cs=some (d,ps)) (hw:wOk P t d) :
 cs.length=P.cellsOf t∧∃ ds:List (DataW H),ds.length=fl.length∧adv ds+1=bkD d∧∀ (i:Nat) (ty off:Nat),fl[i]? = some (ty,off)→∃ di pi,ds[i]? = some di∧DataW.trod enc P W 0 (fun _=>true) true k ty ((cs.drop off).take (P.cellsOf ty))=some (di,pi)∧wOk P ty di:=by
 unfold aoo at hf
 split at hf
 ·rename_i fs hfs
  cases hf
  unfold DataW.trod at h
  rw[hfs] at h
  simp only at h
  split at h
  ·rename_i hl
   simp only[Option.map_eq_some_iff] at h
   obtain⟨xs,h1,h2⟩:=h
   cases h2
   obtain⟨h3,h4⟩:=mapM_some h1
   refine⟨hl,xs.map (·.1),by simp[h3],by simp[bkD],fun i ty off hi=>?_⟩
   rw[List.getElem?_map,Option.map_eq_some_iff] at hi
   obtain⟨f,hi,e⟩:=hi
   cases e
   obtain⟨hlt,hi⟩:=List.getElem?_eq_some_iff.1 hi
   obtain⟨x,k1,k2⟩:=h4 i hlt
   rw[hi] at k2
   refine⟨x.1,x.2,by rw[List.getElem?_map,k1]; rfl,k2,fun n hn=>hw n ?_⟩
   simp only[DataW.weights,hfs]
   refine aGJ (i:=i) (t:=f.type) (d:=x.1) ?_ ?_ hn
   ·rw[List.getElem?_map,List.getElem?_eq_getElem hlt,hi]; rfl
   ·rw[List.getElem?_map,k1]; rfl
  ·cases h
 ·cases hf
theorem aKE {c:Ctx} {b:Nat}:∀ {row:List PV} {o:Nat} {cs:List Value},aY W c row cs→(∀ u∈cs,u.oneCell'=true)→(∀ j,j<cs.length→W.cell? ⟨b,o+j,none⟩=cs[j]?)→dX W c b o row
 | [],_,_,_,_,_=>trivial
 | x::row,o,cs,⟨u,us,e,h1,h2⟩,ho,hc=>by
   subst e
   refine⟨⟨u,by have:=hc 0 (by simp); simpa using this,ho u (by simp),h1⟩,aKE h2 (fun y hy=>ho y (by simp[hy])) fun j hj=>?_⟩
   have:=hc (j+1) (by simpa using hj)
   simp only[List.getElem?_cons_succ] at this
   rw[← this,show o+1+j=o+(j+1) by omega]
theorem aH8 {c:Ctx}:∀ {row:List PV} {cs:List Value},aY W c row cs→row.length=cs.length
 | [],cs,h=>by
   have e:cs=[]:=h
   rw[e]; rfl
 | x::row,cs,⟨u,us,e,h1,h2⟩=>by rw[e]; simp[aH8 h2]
theorem aaG {k:Nat} {t e:TypeId} {esz:Nat} {α:Type} {f:α→List PV} {wt:α→Nat} (ht:P.underlying t=some (.slice e)) (hc:P.cellsOf e=esz) (he:0<esz) (hb:1≤P.bytesOf e) (h:abm enc P W k e f wt):abm enc P W (k+1) t (fun l:List α=>[PV.vec esz false (l.map f)]) (wtL wt):=by
 intro cs d ps hr hw
 unfold DataW.trod at hr
 rw[ht] at hr
 simp only at hr
 split at hr
 all_goals (first|(cases hr; done)|skip)
 all_goals (simp only[reduceCtorEq,Option.some.injEq,TypeDesc.slice.injEq] at *)
 ·exact⟨[],alm ⟨none,0,rfl,by simp,by omega,by simp[LIM],by simp,.inl rfl⟩,by simp[Value.oneCell'],Wu _⟩
 ·rename_i e' a len cap ee
  subst ee
  split at hr
  ·rename_i hh
   obtain⟨_,hlc,hcm⟩:=hh
   simp only[Option.bind_eq_some_iff,Option.map_eq_some_iff] at hr
   obtain⟨els,h1,rest,h2,h3⟩:=hr
   cases h3
   obtain⟨h4,h5⟩:=mapM_some h1
   rw[List.length_range] at h4
   have hlim:len≤LIM:=by
    have:=hw ((els.length+rest.length)*P.bytesOf e) (by simp[DataW.weights,ht])
    have h6:els.length+rest.length≤(els.length+rest.length)*P.bytesOf e:=Nat.le_mul_of_pos_right _ hb
    unfold LIM
    unfold reachBytes at this
    omega
   have hel:∀ i,i<len→∃ x:α,∃ cs:List Value,aY W (GY (asn W)) (f x) cs∧(∀ u∈cs,u.oneCell'=true)∧W.cells? 0 (a.add (i*esz)) esz=some cs∧∃ y,els[i]? = some y∧wt x≤bkD y.1:=fun i hi=>by
    obtain⟨y,k1,k2⟩:=h5 i (by simpa using hi)
    simp only[List.getElem_range,Option.bind_eq_some_iff,hc] at k2
    obtain⟨cs,k3,k4⟩:=k2
    obtain⟨x,k5,k6,k7⟩:=h cs y.1 y.2 k4 (fun n hn=>hw n (by
     simp only[DataW.weights,ht,List.mem_cons,List.mem_append]
     exact .inr (.inl (aIq (List.mem_map.2 ⟨y,List.mem_of_getElem? k1,rfl⟩) hn))))
    exact⟨x,cs,k5,k6,k3,y,k1,k7⟩
   have hz:0<len→∃ v,W.cell? a=some v:=fun h0=>by
    obtain⟨x,cs,r1,r2,r3,-⟩:=hel 0 h0
    obtain⟨_,r4,r5⟩:=World.cells?_some r3
    have h7:=r5 0 he
    rw[List.getElem?_eq_getElem (show 0<cs.length by rw[r4]; exact he)] at h7
    refine⟨_,Eq.trans ?_ h7⟩
    simp[Addr.add]
   have hspot:0<len→a.spot=none:=fun h0=>by
    obtain⟨v,h7⟩:=hz h0
    cases hs:a.spot with
    | none=>rfl
    | some s =>
      unfold World.cell? at h7
      split at h7
      ·simp[hs] at h7
      ·cases h7
   have key:∀ m,m≤len→∃ l:List α,l.length=m∧ay W (GY (asn W)) esz a.block (a.off+(len-m)*esz) (l.map f)∧wtL wt l≤adv ((els.drop (len-m)).map (·.1))+1:=by
    intro m
    induction m with
    | zero=>exact fun _=>⟨[],rfl,trivial,by simp only[wtL]; omega⟩
    | succ m ih =>
      intro hm
      obtain⟨l,l1,l2,l3⟩:=ih (by omega)
      obtain⟨x,cs,r1,r2,r3,y,y1,y2⟩:=hel (len-(m+1)) (by omega)
      obtain⟨_,r4,r5⟩:=World.cells?_some r3
      have hdr:els.drop (len-(m+1))=y::els.drop (len-m):=by
       obtain⟨yl,ye⟩:=List.getElem?_eq_some_iff.1 y1
       rw[List.drop_eq_getElem_cons yl,ye,show len-(m+1)+1=len-m by omega]
      refine⟨x::l,by simp[l1],⟨(aH8 r1).trans r4,aKE r1 r2 fun j hj=>?_,?_⟩,by rw[hdr]; simp only[wtL,List.map_cons,adv]; omega⟩
      ·have h7:=r5 j (by omega)
       rw[← h7]
       have hs:=hspot (by omega)
       obtain⟨ab,ao,asp⟩:=a
       simp only at hs
       subst hs
       congr 1
       simp only[Addr.add]
       split<;>split<;>simp_all<;>omega
      ·have e:a.off+(len-(m+1))*esz+esz=a.off+(len-m)*esz:=by
          have:len-m=(len-(m+1))+1:=by omega
          rw[this,Nat.succ_mul]; omega
       rw[e]; exact l2
   obtain⟨l,l1,l2,l3⟩:=key len (Nat.le_refl _)
   rw[Nat.sub_self,List.drop_zero] at l3
   refine⟨l,alm ⟨some a,cap,by simp[l1],by simpa[l1] using hlc,by unfold maxLen at hcm; omega,by simpa[l1] using hlim,by simp,?_⟩,by simp[Value.oneCell'],by simp only[bkD]; omega⟩
   by_cases h0:len=0
   ·left
    have:l=[]:=List.length_eq_zero_iff.1 (by omega)
    simp[this]
   ·right
    obtain⟨v,h7⟩:=hz (by omega)
    refine⟨a,rfl,hspot (by omega),?_,?_⟩
    ·show a.block<W.heap.size
     unfold World.cell? at h7
     split at h7
     ·rename_i hb'
      exact (Array.getElem?_eq_some_iff.1 hb').1
     ·cases h7
    ·rw[Nat.sub_self,Nat.zero_mul,Nat.add_zero] at l2
     exact l2
  ·cases hr
theorem aOt (T:Tys P) (k:Nat):abm enc P W k 39 dw fun _=>1:=by
 cases k with
 | zero=>exact aaO
 | succ k =>
   intro cs d ps h hw
   obtain⟨hl,ds,hdl,hbk,hf⟩:=ael T.sp h hw
   rw[T.c106] at hl
   match cs,hl with
   | [c0,c1],_ =>
     obtain⟨d0,p0,g0,f0,w0⟩:=hf 0 9 0 rfl
     obtain⟨d1,p1,g1,f1,w1⟩:=hf 1 9 1 rfl
     rw[T.c 9 (by decide)] at f0 f1
     obtain⟨a,a1,a2,-⟩:=avU T.s k _ _ _ f0 w0
     obtain⟨b,b1,b2,-⟩:=avU T.s k _ _ _ f1 w1
     refine⟨⟨a,b⟩,y7 (xs:=encStr a) (vs:=[c0]) a1 (ys:=encStr b) (us:=[c1]) b1,fun u hu=>?_,Wu _⟩
     simp only[List.mem_cons,List.not_mem_nil,or_false] at hu
     rcases hu with rfl|rfl
     ·exact a2 _ (by simp)
     ·exact b2 _ (by simp)
theorem ay9:∀ l:List S,wtL (fun s=>s.data.toList.length+1) l=wtS l+1
 | []=>rfl
 | s::l=>by simp only[wtL,wtS,ay9 l]; omega
theorem aLG:∀ l:List Go.Tidy.Ty,wtL wtT l=ahi l+1
 | []=>rfl
 | s::l=>by simp only[wtL,ahi,aLG l]; omega
theorem aHX {α:Type}:∀ l:List α,wtL (fun _=>1) l=l.length+1
 | []=>rfl
 | s::l=>by simp only[wtL,List.length_cons,aHX l]; omega
def aEO (a:Arr):Nat:=3+wtT a.item
def aEZ (o:Ob):Nat:=4+wtS o.names+ahi o.fields+o.must.length+wtT o.rest
theorem aIl:∀ l:List Arr,wtL aEO l=ajV l+1
 | []=>rfl
 | .mk t lo hi::l=>by simp only[wtL,ajV,aIl l,aEO,Arr.Ze]; omega
theorem aH9:∀ l:List Ob,wtL aEZ l=adx l+1
 | []=>rfl
 | .mk ns fs ms r::l=>by simp only[wtL,adx,aH9 l,aEZ,Ob.ahZ,Ob.uy,Ob.aaR,Ob.agX]; omega
theorem aPt (T:Tys P) (k:Nat) (h30:abm enc P W k 27 fq wtT):abm enc P W (k+1) 59 dz aEO:=by
 intro cs d ps h hw
 obtain⟨hl,ds,hdl,hbk,hf⟩:=ael T.ar h hw
 rw[T.c98] at hl
 obtain⟨d0,p0,g0,f0,w0⟩:=hf 0 27 0 rfl
 obtain⟨d1,p1,g1,f1,w1⟩:=hf 1 3 9 rfl
 obtain⟨d2,p2,g2,f2,w2⟩:=hf 2 3 10 rfl
 have hb:bkD d0+bkD d1+bkD d2+1=bkD d:=by
  match ds,hdl,g0,g1,g2,hbk with
  | [e0,e1,e2],_,g0,g1,g2,hbk =>
    simp at g0 g1 g2
    subst g0 g1 g2
    simp only[adv] at hbk
    omega
 rw[T.c30] at f0
 rw[T.c 3 (by decide)] at f1 f2
 obtain⟨t,a1,a2,a3⟩:=h30 _ _ _ f0 w0
 obtain⟨lo,b1,b2,b3⟩:=aKs T.i k _ _ _ f1 w1
 obtain⟨hi,e1,e2,e3⟩:=aKs T.i k _ _ _ f2 w2
 have e:cs=(cs.drop 0).take 9++((cs.drop 9).take 1++(cs.drop 10).take 1):=by
  match cs,hl with
  | [c0,c1,c2,c3,c4,c5,c6,c7,c8,c9,c10],_=>rfl
 have y1:=Wu d1
 have y2:=Wu d2
 refine⟨.mk t lo hi,?_,fun u hu=>?_,by simp only[aEO,Arr.Ze]; omega⟩
 ·rw[e]
  exact y7 a1 (y7 (xs:=[.int .i64 lo]) b1 (ys:=[.int .i64 hi]) e1)
 ·rw[e] at hu
  simp only[List.mem_append] at hu
  rcases hu with hu|hu|hu
  ·exact a2 _ hu
  ·exact b2 _ hu
  ·exact e2 _ hu
theorem aPD (T:Tys P) (k:Nat) (h30:∀ j,j≤k→abm enc P W j 27 fq wtT):abm enc P W (k+1) 70 au aEZ:=by
 intro cs d ps h hw
 obtain⟨hl,ds,hdl,hbk,hf⟩:=ael T.ob h hw
 rw[T.c57] at hl
 cases k with
 | zero =>
   obtain⟨d0,p0,g0,f0,w0⟩:=hf 0 23 0 rfl
   simp[DataW.trod] at f0
 | succ k =>
   obtain⟨d0,p0,g0,f0,w0⟩:=hf 0 23 0 rfl
   obtain⟨d1,p1,g1,f1,w1⟩:=hf 1 67 1 rfl
   obtain⟨d2,p2,g2,f2,w2⟩:=hf 2 68 2 rfl
   obtain⟨d3,p3,g3,f3,w3⟩:=hf 3 27 3 rfl
   have hb:bkD d0+bkD d1+bkD d2+bkD d3+1=bkD d:=by
    match ds,hdl,g0,g1,g2,g3,hbk with
    | [e0,e1,e2,e3],_,g0,g1,g2,g3,hbk =>
      simp at g0 g1 g2 g3
      subst g0 g1 g2 g3
      simp only[adv] at hbk
      omega
   rw[T.c 23 (by decide)] at f0
   rw[T.c 67 (by decide)] at f1
   rw[T.c 68 (by decide)] at f2
   rw[T.c30] at f3
   obtain⟨ns,a1,a2,a3⟩:=aaG T.l26 (T.c 9 (by decide)) (by omega) (T.bytes 9 (by decide)) (avU T.s k) _ _ _ f0 w0
   obtain⟨fs,b1,b2,b3⟩:=aaG T.l54 T.c30 (by omega) (T.bytes 27 (by decide)) (h30 k (by omega)) _ _ _ f1 w1
   obtain⟨ms,e1,e2,e3⟩:=aaG T.l55 (T.c 4 (by decide)) (by omega) (T.bytes 4 (by decide)) (ag2 T.b k) _ _ _ f2 w2
   obtain⟨r,q1,q2,q3⟩:=h30 _ (Nat.le_refl _) _ _ _ f3 w3
   rw[ay9] at a3
   rw[aLG] at b3
   rw[aHX] at e3
   have e:cs=(cs.drop 0).take 1++((cs.drop 1).take 1++((cs.drop 2).take 1++(cs.drop 3).take 9)):=by
    match cs,hl with
    | [c0,c1,c2,c3,c4,c5,c6,c7,c8,c9,c10,c11],_=>rfl
   refine⟨.mk ns fs ms r,?_,fun u hu=>?_,by simp only[aEZ,Ob.ahZ,Ob.uy,Ob.aaR,Ob.agX]; omega⟩
   ·rw[e]
    simp only[au,avy]
    exact y7 (xs:=[_]) a1 (y7 (xs:=[_]) b1 (y7 (xs:=[_]) e1 q1))
   ·rw[e] at hu
    simp only[List.mem_append] at hu
    rcases hu with hu|hu|hu|hu
    ·exact a2 _ hu
    ·exact b2 _ hu
    ·exact e2 _ hu
    ·exact q2 _ hu
theorem aQa (T:Tys P):∀ n k:Nat,k≤n→abm enc P W k 27 fq wtT:=by
 intro n
 induction n with
 | zero =>
   intro k hk
   obtain rfl:k=0:=by omega
   exact aaO
 | succ n ih =>
   intro k hk
   match k with
   | 0=>exact aaO
   | 1 =>
     intro cs d ps h hw
     obtain⟨hl,ds,hdl,hbk,hf⟩:=ael T.ty h hw
     obtain⟨d0,p0,g0,f0,w0⟩:=hf 0 4 0 rfl
     simp[DataW.trod] at f0
   | k+2 =>
     intro cs d ps h hw
     obtain⟨hl,ds,hdl,hbk,hf⟩:=ael T.ty h hw
     rw[T.c30] at hl
     obtain⟨d0,p0,g0,f0,w0⟩:=hf 0 4 0 rfl
     obtain⟨d1,p1,g1,f1,w1⟩:=hf 1 4 1 rfl
     obtain⟨d2,p2,g2,f2,w2⟩:=hf 2 4 2 rfl
     obtain⟨d3,p3,g3,f3,w3⟩:=hf 3 4 3 rfl
     obtain⟨d4,p4,g4,f4,w4⟩:=hf 4 22 4 rfl
     obtain⟨d5,p5,g5,f5,w5⟩:=hf 5 4 5 rfl
     obtain⟨d6,p6,g6,f6,w6⟩:=hf 6 23 6 rfl
     obtain⟨d7,p7,g7,f7,w7⟩:=hf 7 24 7 rfl
     obtain⟨d8,p8,g8,f8,w8⟩:=hf 8 25 8 rfl
     rw[T.c 4 (by decide)] at f0 f1 f2 f3 f5
     rw[T.c 22 (by decide)] at f4
     rw[T.c 23 (by decide)] at f6
     rw[T.c 24 (by decide)] at f7
     rw[T.c 25 (by decide)] at f8
     have hb:bkD d0+bkD d1+bkD d2+bkD d3+bkD d4+bkD d5+bkD d6+bkD d7+bkD d8+1=bkD d:=by
      match ds,hdl,g0,g1,g2,g3,g4,g5,g6,g7,g8,hbk with
      | [e0,e1,e2,e3,e4,e5,e6,e7,e8],_,g0,g1,g2,g3,g4,g5,g6,g7,g8,hbk =>
        simp at g0 g1 g2 g3 g4 g5 g6 g7 g8
        subst g0 g1 g2 g3 g4 g5 g6 g7 g8
        simp only[adv] at hbk
        omega
     obtain⟨a0,r0,o0,z0⟩:=ag2 T.b (k+1) _ _ _ f0 w0
     obtain⟨a1,r1,o1,z1⟩:=ag2 T.b (k+1) _ _ _ f1 w1
     obtain⟨a2,r2,o2,z2⟩:=ag2 T.b (k+1) _ _ _ f2 w2
     obtain⟨a3,r3,o3,z3⟩:=ag2 T.b (k+1) _ _ _ f3 w3
     obtain⟨a4,r4,o4,z4⟩:=aaG T.l25 T.c106 (by omega) (T.bytes 39 (by decide)) (aOt T k) _ _ _ f4 w4
     obtain⟨a5,r5,o5,z5⟩:=ag2 T.b (k+1) _ _ _ f5 w5
     obtain⟨a6,r6,o6,z6⟩:=aaG T.l26 (T.c 9 (by decide)) (by omega) (T.bytes 9 (by decide)) (avU T.s k) _ _ _ f6 w6
     have hA:abm enc P W k 59 dz aEO:=by
      cases k with
      | zero=>exact aaO
      | succ k=>exact aPt T k (ih k (by omega))
     have hO:abm enc P W k 70 au aEZ:=by
      cases k with
      | zero=>exact aaO
      | succ k=>exact aPD T k fun j hj=>ih j (by omega)
     obtain⟨a7,r7,o7,z7⟩:=aaG T.l27 T.c98 (by omega) (T.bytes 59 (by decide)) hA _ _ _ f7 w7
     obtain⟨a8,r8,o8,z8⟩:=aaG T.l28 T.c57 (by omega) (T.bytes 70 (by decide)) hO _ _ _ f8 w8
     have e:cs=(cs.drop 0).take 1++((cs.drop 1).take 1++((cs.drop 2).take 1++((cs.drop 3).take 1++((cs.drop 4).take 1++((cs.drop 5).take 1++((cs.drop 6).take 1++((cs.drop 7).take 1++(cs.drop 8).take 1))))))):=by
      match cs,hl with
      | [c0,c1,c2,c3,c4,c5,c6,c7,c8],_=>rfl
     have z4':=aKQ (fun _:Span=>1) a4
     have y0:=Wu d0
     have y1:=Wu d1
     have y2:=Wu d2
     have y3:=Wu d3
     have y5:=Wu d5
     rw[ay9] at z6
     rw[aIl] at z7
     rw[aH9] at z8
     refine⟨.mk a0 a1 a2 a3 a4 a5 a6 a7 a8,?_,fun u hu=>?_,by simp only[wtT]; omega⟩
     ·rw[e]
      simp only[fq,aq9,aq7]
      exact y7 (xs:=[_]) r0 (y7 (xs:=[_]) r1 (y7 (xs:=[_]) r2 (y7 (xs:=[_]) r3 (y7 (xs:=[_]) r4 (y7 (xs:=[_]) r5 (y7 (xs:=[_]) r6 (y7 (xs:=[_]) r7 r8)))))))
     ·rw[e] at hu
      simp only[List.mem_append] at hu
      rcases hu with hu|hu|hu|hu|hu|hu|hu|hu|hu
      ·exact o0 _ hu
      ·exact o1 _ hu
      ·exact o2 _ hu
      ·exact o3 _ hu
      ·exact o4 _ hu
      ·exact o5 _ hu
      ·exact o6 _ hu
      ·exact o7 _ hu
      ·exact o8 _ hu
theorem aD9 (T:Tys P) {v:Value} {d:DataW H} {ps:List MemPlace} {vs:Array Value} (hv:v=.agg vs) (h:DataW.Trod enc P W 0 (fun _=>true) true 27 v d ps) (hw:wOk P 27 d):∃ t:Go.Tidy.Ty,bq W (GY (asn W)) (.agg (cT t)) v∧wtT t≤bkD d:=by
 obtain⟨fuel,h⟩:=h
 subst hv
 obtain⟨t,h1,h2,h3⟩:=aQa T fuel fuel (Nat.le_refl _) _ _ _ h hw
 rw[ah9] at h1
 exact⟨t,⟨vs,rfl,h1,h2⟩,h3⟩
end
end Go.Proofs.YtngjnfbngheccaaGreatDoor.Pv
namespace Go.Proofs.YtngjnfbngheccaaGreatDoor
open Go Go.ChangeShapes Go.WideShapes Go.ChangeAt Go.RowKit
theorem own:ownKnob Tryz.prog.godebug=none:=by kernel_rfl
theorem laidOut:laidOutB Tryz.prog=true:=by kernel_rfl
theorem aNW:Pv.Tys Tryz.prog where
 b:=by kernel_rfl
 i:=by kernel_rfl
 s:=by kernel_rfl
 l25:=by kernel_rfl
 l26:=by kernel_rfl
 l27:=by kernel_rfl
 l28:=by kernel_rfl
 l54:=by kernel_rfl
 l55:=by kernel_rfl
 c:=by
   have h:([4,3,9,22,23,24,25,67,68].all fun e=>Tryz.prog.cellsOf e == 1)=true:=by kernel_rfl
   intro e he
   simpa using List.all_eq_true.1 h e he
 c30:=by kernel_rfl
 c57:=by kernel_rfl
 c98:=by kernel_rfl
 c106:=by kernel_rfl
 ty:=by kernel_rfl
 ob:=by kernel_rfl
 ar:=by kernel_rfl
 sp:=by kernel_rfl
 bytes:=by
  have h:([39,9,59,70,27,4].all fun e=>decide (1≤Tryz.prog.bytesOf e))=true:=by kernel_rfl
  intro e he
  simpa using List.all_eq_true.1 h e he
theorem u8x:U8Extra Tryz.prog Tryz.ow:=⟨by kernel_rfl,by kernel_rfl,by kernel_rfl,by kernel_rfl,by kernel_rfl,by kernel_rfl,by kernel_rfl⟩
theorem aMg:((List.range Tryz.prog.globals.size).all fun g=>match Pv.asx Tryz.prog g with
 | none=>true
 | some cs=>(g == Tryz.ow.g 3&&cs == Pv.utf8First)||(g == Tryz.ow.g 4&&cs == Pv.JK))=true:=by kernel_rfl
theorem aIR {g:Nat} {cs:List Nat} (h:Pv.asx Tryz.prog g=some cs):(g=Tryz.ow.g 3∧cs=Pv.utf8First)∨(g=Tryz.ow.g 4∧cs=Pv.JK):=by
 have hg:g<Tryz.prog.globals.size:=by
  have h2:=h
  unfold Pv.asx at h2
  split at h2
  ·rename_i gl hgl
   exact (Array.getElem?_eq_some_iff.1 hgl).1
  ·cases h2
 have h3:=List.all_eq_true.1 aMg g (List.mem_range.2 hg)
 rw[h] at h3
 simp only[Bool.or_eq_true,Bool.and_eq_true,beq_iff_eq] at h3
 exact h3
theorem ap8 {w:World} {g j:Nat} {v:Value} (h:w.cell? ⟨g,j,none⟩=some v):g<w.heap.size:=by
 unfold World.cell? at h
 split at h
 ·rename_i hb
  exact (Array.getElem?_eq_some_iff.1 hb).1
 ·cases h
theorem aMR:∀ c:Fin 256,Lib.firstT c.1≤255:=by decide +kernel
theorem azL:∀ i:Fin 16,Lib.accLo i.1≤255∧Lib.accHi i.1≤255:=by decide +kernel
theorem aKM:Pv.utf8First.length=256:=by kernel_rfl
theorem aJj:Pv.JK.length=32:=by kernel_rfl
theorem aPU {w:World} (hT:Lib.Utf8Tabs (Tryz.ow.g 3) (Tryz.ow.g 4) w):Pv.GOk Tryz.prog w (Pv.asn w):=by
 intro g cs hg
 rcases aIR hg with ⟨e1,e2⟩|⟨e1,e2⟩
 ·have h0:=hT.1 0 (by omega)
  rw[← e1] at h0
  refine⟨ap8 h0,ap8 h0,fun j n hj=>?_⟩
  rw[e2] at hj
  have hl:j<256:=by
   have:=(List.getElem?_eq_some_iff.1 hj).1
   rw[aKM] at this; exact this
  have e:=Pv.aDI ⟨j,hl⟩
  rw[hj] at e
  have e:=Option.some.inj e
  rw[e,e1]
  exact⟨hT.1 j hl,aMR ⟨j,hl⟩⟩
 ·have h0:=(hT.2 0 (by omega)).1
  rw[← e1] at h0
  refine⟨ap8 h0,ap8 h0,fun j n hj=>?_⟩
  rw[e2] at hj
  have hl:j<32:=by
   have:=(List.getElem?_eq_some_iff.1 hj).1
   rw[aJj] at this; exact this
  have hi:j / 2<16:=by omega
  rw[e1]
  by_cases hp:j % 2=0
  ·have ej:j=2*(j / 2):=by omega
   have e:=(Pv.aiC ⟨j / 2,hi⟩).1
   simp only at e
   rw[← ej,hj] at e
   have e:=Option.some.inj e
   have h1:=(hT.2 (j / 2) hi).1
   rw[← ej] at h1
   rw[e]
   exact⟨h1,(azL ⟨j / 2,hi⟩).1⟩
  ·have ej:j=2*(j / 2)+1:=by omega
   have e:=(Pv.aiC ⟨j / 2,hi⟩).2
   simp only at e
   rw[← ej,hj] at e
   have e:=Option.some.inj e
   have h1:=(hT.2 (j / 2) hi).2
   rw[← ej] at h1
   rw[e]
   exact⟨h1,(azL ⟨j / 2,hi⟩).2⟩
end Go.Proofs.YtngjnfbngheccaaGreatDoor
set_option maxRecDepth 100000
namespace Go.Proofs.YtngjnfbngheccaaGreatDoor.Pv
open Go Go.Tidy
end Go.Proofs.YtngjnfbngheccaaGreatDoor.Pv
set_option maxRecDepth 100000
namespace Go.Proofs.YtngjnfbngheccaaGreatDoor.Pv
open Go Go.Tidy
mutual
def aoN:Val→List PV
 | .mk k n t is ks=>[.int .i64 k,.str n,.str t,.vec 5 false (ap4 is),.vec 1 false (ks.map encStr)]
def ap4:List Val→List (List PV)
 | []=>[]
 | v::l=>aoN v::ap4 l
end
theorem aHo (l:List Val):ap4 l=l.map aoN:=by induction l with|nil=>rfl|cons a l ih=>simp[ap4,ih]
abbrev cV (v:Val):List PV:=[.int .i64 v.kind,.str v.num,.str v.text,.vec 5 false (v.items.map aoN),.vec 1 false (v.keys.map encStr)]
theorem aLy (v:Val):aoN v=cV v:=by
 obtain⟨k,n,t,is,ks⟩:=v
 simp[aoN,aHo,cV,Val.kind,Val.num,Val.text,Val.items,Val.keys]
attribute [simp] aLy
end Go.Proofs.YtngjnfbngheccaaGreatDoor.Pv
namespace Go.Proofs.YtngjnfbngheccaaGreatDoor.Pv
open Go Go.Tidy Go.RowKit
end Go.Proofs.YtngjnfbngheccaaGreatDoor.Pv
namespace Go.Proofs.YtngjnfbngheccaaGreatDoor
open Go Go.ChangeShapes Go.WideShapes Go.ChangeAt Go.RowKit
theorem aPJ {t:TypeId} {fl:List (TypeId × Nat)} {W:World} {base:Nat} {v:Value} (ht:Pv.aoo Tryz.prog t=some fl) (hv:Value.okWide Tryz.prog W .any base t v):∃ cs,v=.agg cs:=by
 unfold Value.okWide at hv
 have hs:∃ fs,Tryz.prog.underlying t=some (.struct fs):=by
  unfold Pv.aoo at ht
  split at ht
  ·rename_i fs hfs
   exact⟨fs,hfs⟩
  ·cases ht
 obtain⟨fs,hs⟩:=hs
 rw[hs] at hv
 obtain⟨cs,hc,_⟩:=hv
 exact⟨cs,hc⟩
end Go.Proofs.YtngjnfbngheccaaGreatDoor
namespace Go.Proofs.YtngjnfbngheccaaGreatDoor
open Go Go.ChangeShapes Go.WideShapes Go.ChangeAt Go.RowKit
theorem aNz {H:Type} {enc:TypeId × Value→H} {C:Checked} {os:Os} {f:FuncId} {fn:Func} {s:OpenSpec} {conds:List PathCond} {apart:Bool} {laid:List (String × DataW Unit)} (w0:World) (args:Array Value) (fuel:Nat) (hos:w0.os=os)
 (hsh:(w0.forCall (fun _ _=>0) ⟨#[],args,[]⟩).Shaped C.prog)
 (hok:Input.okWideB C.prog (w0.forCall (fun _ _=>0) ⟨#[],args,[]⟩) f ⟨#[],args,[]⟩=true)
 (h0:(DataW.whole enc C.prog (w0.forCall (fun _ _=>0) ⟨#[],args,[]⟩).memory fn.params.toList s.vars apart args.toList fuel).isSome=true)
 (hconds:conds=[]) (hkk:∀ k,s.cond=some k→k H (((DataW.whole enc C.prog (w0.forCall (fun _ _=>0) ⟨#[],args,[]⟩).memory fn.params.toList s.vars apart args.toList fuel).get h0).1++((DataW.whole enc C.prog (w0.forCall (fun _ _=>0) ⟨#[],args,[]⟩).memory fn.params.toList s.vars apart args.toList fuel).get h0).2.1)=true)
 (hsz:s.bare.sizedB enc C.prog fn apart (w0.forCall (fun _ _=>0) ⟨#[],args,[]⟩).memory args fuel=true) (hl:laidMetH C.prog laid (w0.forCall (fun _ _=>0) ⟨#[],args,[]⟩).memory) :
 ∃ (w:World) (tape:Tape) (i:Input),w.os=os∧(w.forCall tape i).Shaped C.prog∧i.vars=[]∧Input.okWide C.prog (w.forCall tape i) .any w.heap.size f i ∧
   s.preRow enc C.prog fn conds apart laid (w.forCall tape i).memory i.args∧({}:Assume).holds C.prog (lone (Frame.enter C.prog f i.args .normal) [] (w.forCall tape i)) :=
 ⟨w0,fun _ _=>0,⟨#[],args,[]⟩,hos,hsh,(Input.okWide_of_okWideB (base:=0) hok).1,(Input.okWide_of_okWideB hok).2,OpenSpec.preRow_of_cond fuel (Option.some_get h0).symm (by rw[hconds]; rfl) hkk hsz hl,by
  simp only[Assume.holds]
  exact⟨by simp,by simp,(fun h=>by cases h),by simp,by simp⟩⟩
end Go.Proofs.YtngjnfbngheccaaGreatDoor
namespace Go.Proofs.YtngjnfbngheccaaGreatDoor
open Go Go.Tidy
mutual
theorem aqd {H:Type}:∀ d:DataW H,Pv.bkD d≤Rows.uptoBulk d
 | .lit (.string b)=>by simp[Pv.bkD,Rows.uptoBulk]
 | .lit (.bool _)=>by simp[Pv.bkD,Rows.uptoBulk]
 | .lit (.int _ _)=>by simp[Pv.bkD,Rows.uptoBulk]
 | .lit (.float _ _)=>by simp[Pv.bkD,Rows.uptoBulk]
 | .lit .nil=>by simp[Pv.bkD,Rows.uptoBulk]
 | .nil=>by simp[Pv.bkD,Rows.uptoBulk]
 | .ptr d=>by have:=aqd d; simp only[Pv.bkD,Rows.uptoBulk]; omega
 | .slice l m=>by have:=al5 l; have:=al5 m; simp only[Pv.bkD,Rows.uptoBulk]; omega
 | .agg l=>by have:=al5 l; simp only[Pv.bkD,Rows.uptoBulk]; omega
 | .iface _ d=>by have:=aqd d; simp only[Pv.bkD,Rows.uptoBulk]; omega
 | .map _=>by simp[Pv.bkD,Rows.uptoBulk]
 | .held _=>by simp[Pv.bkD,Rows.uptoBulk]
theorem al5 {H:Type}:∀ l:List (DataW H),Pv.adv l≤Rows.uptoBulkAll l
 | []=>by simp[Pv.adv,Rows.uptoBulkAll]
 | d::l=>by have:=aqd d; have:=al5 l; simp only[Pv.adv,Rows.uptoBulkAll]; omega
end
theorem aLV {H:Type} {enc:TypeId × Value→H} {P:Program} {W:World} (T:Pv.Tys P) {v:Value} {d:DataW H} {ps:List MemPlace} {vs:Array Value} (hv:v=.agg vs) (h:DataW.Trod enc P W 0 (fun _=>true) true 27 v d ps) (hw:Pv.wOk P 27 d):∃ t:Go.Tidy.Ty,Pv.bq W (Pv.GY (Pv.asn W)) (.agg (Pv.cT t)) v∧wtT t≤Rows.uptoBulk d:=by
 obtain⟨t,h1,h2⟩:=Pv.aD9 T hv h hw
 exact⟨t,h1,Nat.le_trans h2 (aqd d)⟩
end Go.Proofs.YtngjnfbngheccaaGreatDoor

/- Part 10. -/
import Derived.Test.YtbdogkmdanmojaaGreatDoorV9
import Derived.ProofKit
import Derived.Shelf.Strconv.Clone
import Derived.Scope
set_option linter.unusedSimpArgs false
set_option linter.unusedVariables false
namespace Go.Proofs.YtbdogkmdanmojaaGreatDoor.Pv
open Go Go.Tidy Go.RowKit
def flds (P:Program) (t:TypeId):Option (List (TypeId × Nat)):=match P.underlying t with
 | some (.struct fs)=>some (fs.toList.map fun f=>(f.type,f.offset))
 | _=>none
structure Tys (P:Program):Prop where
 b:P.underlying 4=some .bool
 i:P.underlying 3=some (.int .i64)
 s:P.underlying 9=some .string
 l25:P.underlying 22=some (.slice 64)
 l26:P.underlying 23=some (.slice 9)
 l27:P.underlying 24=some (.slice 76)
 l28:P.underlying 25=some (.slice 41)
 l54:P.underlying 38=some (.slice 27)
 l55:P.underlying 39=some (.slice 4)
 c:∀ e∈[4,3,9,22,23,24,25,38,39],P.cellsOf e=1
 c30:P.cellsOf 27=9
 c57:P.cellsOf 41=12
 c98:P.cellsOf 76=11
 c106:P.cellsOf 64=2
 ty:flds P 27=some [(4,0),(4,1),(4,2),(4,3),(22,4),(4,5),(23,6),(24,7),(25,8)]
 ob:flds P 41=some [(23,0),(38,1),(39,2),(27,3)]
 ar:flds P 76=some [(27,0),(3,9),(3,10)]
 sp:flds P 64=some [(9,0),(9,1)]
 bytes:∀ e∈[64,9,76,41,27,4],1≤P.bytesOf e
def wOk {H:Type} (P:Program) (t:TypeId) (d:DataW H):Prop:=∀ n∈d.weights P t,n≤reachBytes
mutual
def bkD {H:Type}:DataW H→Nat
 | .lit (.string b)=>b.length+1
 | .lit _=>1
 | .nil=>1
 | .ptr d=>bkD d+1
 | .slice l m=>bkDs l+bkDs m+1
 | .agg l=>bkDs l+1
 | .iface _ d=>bkD d+1
 | .map _=>1
 | .held _=>1
def bkDs {H:Type}:List (DataW H)→Nat
 | []=>0
 | d::l=>bkD d+bkDs l
end
theorem bkD_ge {H:Type} (d:DataW H):1≤bkD d:=by
 cases d with
 | lit l=>cases l<;>simp[bkD]
 | nil|ptr _|slice _ _|agg _|iface _ _|map _|held _=>simp[bkD]
def wtL {α:Type} (wt:α→Nat):List α→Nat
 | []=>1
 | x::l=>wt x+wtL wt l
theorem wtL_ge {α:Type} (wt:α→Nat):∀ l:List α,1≤wtL wt l
 | []=>Nat.le_refl _
 | _::l=>Nat.le_trans (wtL_ge wt l) (Nat.le_add_left _ _)
section
variable {H:Type} {enc:TypeId × Value→H} {P:Program} {W:World}
abbrev allF (W:World):Nat→Prop:=fun b=>b<W.heap.size
def RdOk (enc:TypeId × Value→H) (P:Program) (W:World) (k:Nat) (t:TypeId) {α:Type} (f:α→List PV) (wt:α→Nat):Prop :=
 ∀ cs d ps,DataW.trod enc P W 0 (fun _=>true) true k t cs=some (d,ps)→wOk P t d→∃ x:α,RepL W (dctx (allF W)) (f x) cs∧(∀ u∈cs,u.oneCell'=true)∧wt x≤bkD d
theorem rd_zero {t:TypeId} {α:Type} {f:α→List PV} {wt:α→Nat}:RdOk enc P W 0 t f wt:=fun cs d ps h _=>by simp[DataW.trod] at h
theorem rep_one {c:Ctx} {x:PV} {v:Value} (h:RepV W c x v):RepL W c [x] [v]:=⟨v,[],rfl,h,rfl⟩
theorem rep_app {c:Ctx}:∀ {xs:List PV} {vs:List Value} {ys:List PV} {us:List Value},RepL W c xs vs→RepL W c ys us→RepL W c (xs++ys) (vs++us)
 | [],vs,ys,us,h,k=>by
   have e:vs=[]:=h
   rw[e]; exact k
 | x::xs,vs,ys,us,⟨u,us',e,h1,h2⟩,k=>by
   rw[e]
   exact⟨u,us'++us,rfl,h1,rep_app h2 k⟩
theorem rd_bool {t:TypeId} (ht:P.underlying t=some .bool):∀ k,RdOk enc P W k t encBool fun _=>1
 | 0=>rd_zero
 | k+1=>fun cs d ps h _=>by
   unfold DataW.trod at h
   rw[ht] at h
   simp only at h
   split at h
   all_goals (first|(cases h; done)|skip)
   all_goals (simp only[reduceCtorEq,Option.some.injEq] at *)
   rename_i b _
   exact⟨b,rep_one rfl,by simp[Value.oneCell'],bkD_ge _⟩
theorem rd_str {t:TypeId} (ht:P.underlying t=some .string):∀ k,RdOk enc P W k t encStr fun s=>s.data.toList.length+1
 | 0=>rd_zero
 | k+1=>fun cs d ps h hw=>by
   unfold DataW.trod at h
   rw[ht] at h
   simp only at h
   split at h
   all_goals (first|(cases h; done)|skip)
   all_goals (simp only[reduceCtorEq,Option.some.injEq] at *)
   rename_i s _
   split at h
   ·cases h
    refine⟨s,rep_one ⟨rfl,?_⟩,by simp[Value.oneCell'],by simp[bkD]⟩
    have:=hw s.data.toList.length (by unfold DataW.weights; exact List.mem_singleton.2 rfl)
    have e:s.size=s.data.toList.length:=rfl
    rw[e]
    unfold LIM
    unfold reachBytes at this
    omega
   ·cases h
theorem rd_int {t:TypeId} (ht:P.underlying t=some (.int .i64)):∀ k,RdOk enc P W k t (fun n:Int=>[PV.int .i64 n]) fun _=>1
 | 0=>rd_zero
 | k+1=>fun cs d ps h hw=>by
   unfold DataW.trod at h
   rw[ht] at h
   simp only at h
   split at h
   all_goals (first|(cases h; done)|skip)
   all_goals (simp only[reduceCtorEq,Option.some.injEq,TypeDesc.int.injEq] at *)
   rename_i k1 k2 n e
   subst e
   split at h
   ·rename_i hh
    obtain⟨rfl,hh⟩:=hh
    refine⟨n,rep_one ⟨rfl,?_⟩,by simp[Value.oneCell'],bkD_ge _⟩
    simpa[Lit.wf] using hh
   ·cases h
theorem mapM_some {α β:Type} {f:α→Option β}:∀ {l:List α} {xs:List β},l.mapM f=some xs→xs.length=l.length∧∀ i (h:i<l.length),∃ x,xs[i]? = some x∧f l[i]=some x
 | [],xs,h=>by
   simp at h; subst h
   exact⟨rfl,fun i h=>absurd h (by simp)⟩
 | a::l,xs,h=>by
   simp only[List.mapM_cons,Option.pure_def,Option.bind_eq_bind,Option.bind_eq_some_iff,Option.some.injEq] at h
   obtain⟨x,h1,ys,h2,rfl⟩:=h
   obtain⟨h3,h4⟩:=mapM_some h2
   refine⟨by simp[h3],fun i hi=>?_⟩
   cases i with
   | zero=>exact⟨x,rfl,h1⟩
   | succ i =>
     obtain⟨y,k1,k2⟩:=h4 i (by simpa using hi)
     exact⟨y,by simpa using k1,by simpa using k2⟩
theorem each_mem {P:Program}:∀ {ts:List TypeId} {ds:List (DataW H)} {i:Nat} {t:TypeId} {d:DataW H} {n:Nat},ts[i]? = some t→ds[i]? = some d→n∈d.weights P t→n∈DataW.weightsEach P ts ds
 | [],_,_,_,_,_,h,_,_=>by simp at h
 | _::_,[],_,_,_,_,_,h,_=>by simp at h
 | t::ts,d::ds,0,t',d',n,h1,h2,h3=>by
   simp only[List.getElem?_cons_zero,Option.some.injEq] at h1 h2
   subst h1 h2
   simp only[DataW.weightsEach,List.mem_append]; exact .inl h3
 | t::ts,d::ds,i+1,t',d',n,h1,h2,h3=>by
   simp only[List.getElem?_cons_succ] at h1 h2
   simp only[DataW.weightsEach,List.mem_append]; exact .inr (each_mem h1 h2 h3)
theorem all_mem {P:Program} {e:TypeId} {d:DataW H} {n:Nat}:∀ {ds:List (DataW H)},d∈ds→n∈d.weights P e→n∈DataW.weightsAll P e ds
 | [],h,_=>by simp at h
 | d'::ds,h,k=>by
   simp only[DataW.weightsAll,List.mem_append]
   rcases List.mem_cons.1 h with rfl|h
   ·exact .inl k
   ·exact .inr (all_mem h k)
theorem rd_struct {k:Nat} {t:TypeId} {fl:List (TypeId × Nat)} {cs:List Value} {d:DataW H} {ps:List MemPlace} (hf:flds P t=some fl) (h:DataW.trod enc P W 0 (fun _=>true) true (k+1) t cs=some (d,ps)) (hw:wOk P t d) :
 cs.length=P.cellsOf t∧∃ ds:List (DataW H),ds.length=fl.length∧bkDs ds+1=bkD d∧∀ (i:Nat) (ty off:Nat),fl[i]? = some (ty,off)→∃ di pi,ds[i]? = some di∧DataW.trod enc P W 0 (fun _=>true) true k ty ((cs.drop off).take (P.cellsOf ty))=some (di,pi)∧wOk P ty di:=by
 unfold flds at hf
 split at hf
 ·rename_i fs hfs
  cases hf
  unfold DataW.trod at h
  rw[hfs] at h
  simp only at h
  split at h
  ·rename_i hl
   simp only[Option.map_eq_some_iff] at h
   obtain⟨xs,h1,h2⟩:=h
   cases h2
   obtain⟨h3,h4⟩:=mapM_some h1
   refine⟨hl,xs.map (·.1),by simp[h3],by simp[bkD],fun i ty off hi=>?_⟩
   rw[List.getElem?_map,Option.map_eq_some_iff] at hi
   obtain⟨f,hi,e⟩:=hi
   cases e
   obtain⟨hlt,hi⟩:=List.getElem?_eq_some_iff.1 hi
   obtain⟨x,k1,k2⟩:=h4 i hlt
   rw[hi] at k2
   refine⟨x.1,x.2,by rw[List.getElem?_map,k1]; rfl,k2,fun n hn=>hw n ?_⟩
   simp only[DataW.weights,hfs]
   refine each_mem (i:=i) (t:=f.type) (d:=x.1) ?_ ?_ hn
   ·rw[List.getElem?_map,List.getElem?_eq_getElem hlt,hi]; rfl
   ·rw[List.getElem?_map,k1]; rfl
  ·cases h
 ·cases hf
theorem rep_at {c:Ctx} {b:Nat}:∀ {row:List PV} {o:Nat} {cs:List Value},RepL W c row cs→(∀ u∈cs,u.oneCell'=true)→(∀ j,j<cs.length→W.cell? ⟨b,o+j,none⟩=cs[j]?)→RepAt W c b o row
 | [],_,_,_,_,_=>trivial
 | x::row,o,cs,⟨u,us,e,h1,h2⟩,ho,hc=>by
   subst e
   refine⟨⟨u,by have:=hc 0 (by simp); simpa using this,ho u (by simp),h1⟩,rep_at h2 (fun y hy=>ho y (by simp[hy])) fun j hj=>?_⟩
   have:=hc (j+1) (by simpa using hj)
   simp only[List.getElem?_cons_succ] at this
   rw[← this,show o+1+j=o+(j+1) by omega]
theorem rep_len {c:Ctx}:∀ {row:List PV} {cs:List Value},RepL W c row cs→row.length=cs.length
 | [],cs,h=>by
   have e:cs=[]:=h
   rw[e]; rfl
 | x::row,cs,⟨u,us,e,h1,h2⟩=>by rw[e]; simp[rep_len h2]
theorem rd_slice {k:Nat} {t e:TypeId} {esz:Nat} {α:Type} {f:α→List PV} {wt:α→Nat} (ht:P.underlying t=some (.slice e)) (hc:P.cellsOf e=esz) (he:0<esz) (hb:1≤P.bytesOf e) (h:RdOk enc P W k e f wt):RdOk enc P W (k+1) t (fun l:List α=>[PV.vec esz false (l.map f)]) (wtL wt):=by
 intro cs d ps hr hw
 unfold DataW.trod at hr
 rw[ht] at hr
 simp only at hr
 split at hr
 all_goals (first|(cases hr; done)|skip)
 all_goals (simp only[reduceCtorEq,Option.some.injEq,TypeDesc.slice.injEq] at *)
 ·exact⟨[],rep_one ⟨none,0,rfl,by simp,by omega,by simp[LIM],by simp,.inl rfl⟩,by simp[Value.oneCell'],bkD_ge _⟩
 ·rename_i e' a len cap ee
  subst ee
  split at hr
  ·rename_i hh
   obtain⟨_,hlc,hcm⟩:=hh
   simp only[Option.bind_eq_some_iff,Option.map_eq_some_iff] at hr
   obtain⟨els,h1,rest,h2,h3⟩:=hr
   cases h3
   obtain⟨h4,h5⟩:=mapM_some h1
   rw[List.length_range] at h4
   have hlim:len≤LIM:=by
    have:=hw ((els.length+rest.length)*P.bytesOf e) (by simp[DataW.weights,ht])
    have h6:els.length+rest.length≤(els.length+rest.length)*P.bytesOf e:=Nat.le_mul_of_pos_right _ hb
    unfold LIM
    unfold reachBytes at this
    omega
   have hel:∀ i,i<len→∃ x:α,∃ cs:List Value,RepL W (dctx (allF W)) (f x) cs∧(∀ u∈cs,u.oneCell'=true)∧W.cells? 0 (a.add (i*esz)) esz=some cs∧∃ y,els[i]? = some y∧wt x≤bkD y.1:=fun i hi=>by
    obtain⟨y,k1,k2⟩:=h5 i (by simpa using hi)
    simp only[List.getElem_range,Option.bind_eq_some_iff,hc] at k2
    obtain⟨cs,k3,k4⟩:=k2
    obtain⟨x,k5,k6,k7⟩:=h cs y.1 y.2 k4 (fun n hn=>hw n (by
     simp only[DataW.weights,ht,List.mem_cons,List.mem_append]
     exact .inr (.inl (all_mem (List.mem_map.2 ⟨y,List.mem_of_getElem? k1,rfl⟩) hn))))
    exact⟨x,cs,k5,k6,k3,y,k1,k7⟩
   have hz:0<len→∃ v,W.cell? a=some v:=fun h0=>by
    obtain⟨x,cs,r1,r2,r3,-⟩:=hel 0 h0
    obtain⟨_,r4,r5⟩:=World.cells?_some r3
    have h7:=r5 0 he
    rw[List.getElem?_eq_getElem (show 0<cs.length by rw[r4]; exact he)] at h7
    refine⟨_,Eq.trans ?_ h7⟩
    simp[Addr.add]
   have hspot:0<len→a.spot=none:=fun h0=>by
    obtain⟨v,h7⟩:=hz h0
    cases hs:a.spot with
    | none=>rfl
    | some s =>
      unfold World.cell? at h7
      split at h7
      ·simp[hs] at h7
      ·cases h7
   have key:∀ m,m≤len→∃ l:List α,l.length=m∧RepRows W (dctx (allF W)) esz a.block (a.off+(len-m)*esz) (l.map f)∧wtL wt l≤bkDs ((els.drop (len-m)).map (·.1))+1:=by
    intro m
    induction m with
    | zero=>exact fun _=>⟨[],rfl,trivial,by simp only[wtL]; omega⟩
    | succ m ih =>
      intro hm
      obtain⟨l,l1,l2,l3⟩:=ih (by omega)
      obtain⟨x,cs,r1,r2,r3,y,y1,y2⟩:=hel (len-(m+1)) (by omega)
      obtain⟨_,r4,r5⟩:=World.cells?_some r3
      have hdr:els.drop (len-(m+1))=y::els.drop (len-m):=by
       obtain⟨yl,ye⟩:=List.getElem?_eq_some_iff.1 y1
       rw[List.drop_eq_getElem_cons yl,ye,show len-(m+1)+1=len-m by omega]
      refine⟨x::l,by simp[l1],⟨(rep_len r1).trans r4,rep_at r1 r2 fun j hj=>?_,?_⟩,by rw[hdr]; simp only[wtL,List.map_cons,bkDs]; omega⟩
      ·have h7:=r5 j (by omega)
       rw[← h7]
       have hs:=hspot (by omega)
       obtain⟨ab,ao,asp⟩:=a
       simp only at hs
       subst hs
       congr 1
       simp only[Addr.add]
       split<;>split<;>simp_all<;>omega
      ·have e:a.off+(len-(m+1))*esz+esz=a.off+(len-m)*esz:=by
          have:len-m=(len-(m+1))+1:=by omega
          rw[this,Nat.succ_mul]; omega
       rw[e]; exact l2
   obtain⟨l,l1,l2,l3⟩:=key len (Nat.le_refl _)
   rw[Nat.sub_self,List.drop_zero] at l3
   refine⟨l,rep_one ⟨some a,cap,by simp[l1],by simpa[l1] using hlc,by unfold maxLen at hcm; omega,by simpa[l1] using hlim,by simp,?_⟩,by simp[Value.oneCell'],by simp only[bkD]; omega⟩
   by_cases h0:len=0
   ·left
    have:l=[]:=List.length_eq_zero_iff.1 (by omega)
    simp[this]
   ·right
    obtain⟨v,h7⟩:=hz (by omega)
    refine⟨a,rfl,hspot (by omega),?_,?_⟩
    ·show a.block<W.heap.size
     unfold World.cell? at h7
     split at h7
     ·rename_i hb'
      exact (Array.getElem?_eq_some_iff.1 hb').1
     ·cases h7
    ·rw[Nat.sub_self,Nat.zero_mul,Nat.add_zero] at l2
     exact l2
  ·cases hr
theorem rd_span (T:Tys P) (k:Nat):RdOk enc P W k 64 encSpan fun _=>1:=by
 cases k with
 | zero=>exact rd_zero
 | succ k =>
   intro cs d ps h hw
   obtain⟨hl,ds,hdl,hbk,hf⟩:=rd_struct T.sp h hw
   rw[T.c106] at hl
   match cs,hl with
   | [c0,c1],_ =>
     obtain⟨d0,p0,g0,f0,w0⟩:=hf 0 9 0 rfl
     obtain⟨d1,p1,g1,f1,w1⟩:=hf 1 9 1 rfl
     rw[T.c 9 (by decide)] at f0 f1
     obtain⟨a,a1,a2,-⟩:=rd_str T.s k _ _ _ f0 w0
     obtain⟨b,b1,b2,-⟩:=rd_str T.s k _ _ _ f1 w1
     refine⟨⟨a,b⟩,rep_app (xs:=encStr a) (vs:=[c0]) a1 (ys:=encStr b) (us:=[c1]) b1,fun u hu=>?_,bkD_ge _⟩
     simp only[List.mem_cons,List.not_mem_nil,or_false] at hu
     rcases hu with rfl|rfl
     ·exact a2 _ (by simp)
     ·exact b2 _ (by simp)
theorem wtL_str:∀ l:List S,wtL (fun s=>s.data.toList.length+1) l=wtS l+1
 | []=>rfl
 | s::l=>by simp only[wtL,wtS,wtL_str l]; omega
theorem wtL_ty:∀ l:List Go.Tidy.Ty,wtL wtT l=wtTs l+1
 | []=>rfl
 | s::l=>by simp only[wtL,wtTs,wtL_ty l]; omega
theorem wtL_one {α:Type}:∀ l:List α,wtL (fun _=>1) l=l.length+1
 | []=>rfl
 | s::l=>by simp only[wtL,List.length_cons,wtL_one l]; omega
def wtA1 (a:Arr):Nat:=3+wtT a.item
def wtO1 (o:Ob):Nat:=4+wtS o.names+wtTs o.fields+o.must.length+wtT o.rest
theorem wtL_arr:∀ l:List Arr,wtL wtA1 l=wtAs l+1
 | []=>rfl
 | .mk t lo hi::l=>by simp only[wtL,wtAs,wtL_arr l,wtA1,Arr.item_mk]; omega
theorem wtL_obj:∀ l:List Ob,wtL wtO1 l=wtOs l+1
 | []=>rfl
 | .mk ns fs ms r::l=>by simp only[wtL,wtOs,wtL_obj l,wtO1,Ob.names_mk,Ob.fields_mk,Ob.must_mk,Ob.rest_mk]; omega
theorem rd_arr (T:Tys P) (k:Nat) (h30:RdOk enc P W k 27 encTy wtT):RdOk enc P W (k+1) 76 encArr wtA1:=by
 intro cs d ps h hw
 obtain⟨hl,ds,hdl,hbk,hf⟩:=rd_struct T.ar h hw
 rw[T.c98] at hl
 obtain⟨d0,p0,g0,f0,w0⟩:=hf 0 27 0 rfl
 obtain⟨d1,p1,g1,f1,w1⟩:=hf 1 3 9 rfl
 obtain⟨d2,p2,g2,f2,w2⟩:=hf 2 3 10 rfl
 have hb:bkD d0+bkD d1+bkD d2+1=bkD d:=by
  match ds,hdl,g0,g1,g2,hbk with
  | [e0,e1,e2],_,g0,g1,g2,hbk =>
    simp at g0 g1 g2
    subst g0 g1 g2
    simp only[bkDs] at hbk
    omega
 rw[T.c30] at f0
 rw[T.c 3 (by decide)] at f1 f2
 obtain⟨t,a1,a2,a3⟩:=h30 _ _ _ f0 w0
 obtain⟨lo,b1,b2,b3⟩:=rd_int T.i k _ _ _ f1 w1
 obtain⟨hi,e1,e2,e3⟩:=rd_int T.i k _ _ _ f2 w2
 have e:cs=(cs.drop 0).take 9++((cs.drop 9).take 1++(cs.drop 10).take 1):=by
  match cs,hl with
  | [c0,c1,c2,c3,c4,c5,c6,c7,c8,c9,c10],_=>rfl
 have y1:=bkD_ge d1
 have y2:=bkD_ge d2
 refine⟨.mk t lo hi,?_,fun u hu=>?_,by simp only[wtA1,Arr.item_mk]; omega⟩
 ·rw[e]
  exact rep_app a1 (rep_app (xs:=[.int .i64 lo]) b1 (ys:=[.int .i64 hi]) e1)
 ·rw[e] at hu
  simp only[List.mem_append] at hu
  rcases hu with hu|hu|hu
  ·exact a2 _ hu
  ·exact b2 _ hu
  ·exact e2 _ hu
theorem rd_obj (T:Tys P) (k:Nat) (h30:∀ j,j≤k→RdOk enc P W j 27 encTy wtT):RdOk enc P W (k+1) 41 encObj wtO1:=by
 intro cs d ps h hw
 obtain⟨hl,ds,hdl,hbk,hf⟩:=rd_struct T.ob h hw
 rw[T.c57] at hl
 cases k with
 | zero =>
   obtain⟨d0,p0,g0,f0,w0⟩:=hf 0 23 0 rfl
   simp[DataW.trod] at f0
 | succ k =>
   obtain⟨d0,p0,g0,f0,w0⟩:=hf 0 23 0 rfl
   obtain⟨d1,p1,g1,f1,w1⟩:=hf 1 38 1 rfl
   obtain⟨d2,p2,g2,f2,w2⟩:=hf 2 39 2 rfl
   obtain⟨d3,p3,g3,f3,w3⟩:=hf 3 27 3 rfl
   have hb:bkD d0+bkD d1+bkD d2+bkD d3+1=bkD d:=by
    match ds,hdl,g0,g1,g2,g3,hbk with
    | [e0,e1,e2,e3],_,g0,g1,g2,g3,hbk =>
      simp at g0 g1 g2 g3
      subst g0 g1 g2 g3
      simp only[bkDs] at hbk
      omega
   rw[T.c 23 (by decide)] at f0
   rw[T.c 38 (by decide)] at f1
   rw[T.c 39 (by decide)] at f2
   rw[T.c30] at f3
   obtain⟨ns,a1,a2,a3⟩:=rd_slice T.l26 (T.c 9 (by decide)) (by omega) (T.bytes 9 (by decide)) (rd_str T.s k) _ _ _ f0 w0
   obtain⟨fs,b1,b2,b3⟩:=rd_slice T.l54 T.c30 (by omega) (T.bytes 27 (by decide)) (h30 k (by omega)) _ _ _ f1 w1
   obtain⟨ms,e1,e2,e3⟩:=rd_slice T.l55 (T.c 4 (by decide)) (by omega) (T.bytes 4 (by decide)) (rd_bool T.b k) _ _ _ f2 w2
   obtain⟨r,q1,q2,q3⟩:=h30 _ (Nat.le_refl _) _ _ _ f3 w3
   rw[wtL_str] at a3
   rw[wtL_ty] at b3
   rw[wtL_one] at e3
   have e:cs=(cs.drop 0).take 1++((cs.drop 1).take 1++((cs.drop 2).take 1++(cs.drop 3).take 9)):=by
    match cs,hl with
    | [c0,c1,c2,c3,c4,c5,c6,c7,c8,c9,c10,c11],_=>rfl
   refine⟨.mk ns fs ms r,?_,fun u hu=>?_,by simp only[wtO1,Ob.names_mk,Ob.fields_mk,Ob.must_mk,Ob.rest_mk]; omega⟩
   ·rw[e]
    simp only[encObj,encTys_map]
    exact rep_app (xs:=[_]) a1 (rep_app (xs:=[_]) b1 (rep_app (xs:=[_]) e1 q1))
   ·rw[e] at hu
    simp only[List.mem_append] at hu
    rcases hu with hu|hu|hu|hu
    ·exact a2 _ hu
    ·exact b2 _ hu
    ·exact e2 _ hu
    ·exact q2 _ hu
theorem rd_ty (T:Tys P):∀ n k:Nat,k≤n→RdOk enc P W k 27 encTy wtT:=by
 intro n
 induction n with
 | zero =>
   intro k hk
   obtain rfl:k=0:=by omega
   exact rd_zero
 | succ n ih =>
   intro k hk
   match k with
   | 0=>exact rd_zero
   | 1 =>
     intro cs d ps h hw
     obtain⟨hl,ds,hdl,hbk,hf⟩:=rd_struct T.ty h hw
     obtain⟨d0,p0,g0,f0,w0⟩:=hf 0 4 0 rfl
     simp[DataW.trod] at f0
   | k+2 =>
     intro cs d ps h hw
     obtain⟨hl,ds,hdl,hbk,hf⟩:=rd_struct T.ty h hw
     rw[T.c30] at hl
     obtain⟨d0,p0,g0,f0,w0⟩:=hf 0 4 0 rfl
     obtain⟨d1,p1,g1,f1,w1⟩:=hf 1 4 1 rfl
     obtain⟨d2,p2,g2,f2,w2⟩:=hf 2 4 2 rfl
     obtain⟨d3,p3,g3,f3,w3⟩:=hf 3 4 3 rfl
     obtain⟨d4,p4,g4,f4,w4⟩:=hf 4 22 4 rfl
     obtain⟨d5,p5,g5,f5,w5⟩:=hf 5 4 5 rfl
     obtain⟨d6,p6,g6,f6,w6⟩:=hf 6 23 6 rfl
     obtain⟨d7,p7,g7,f7,w7⟩:=hf 7 24 7 rfl
     obtain⟨d8,p8,g8,f8,w8⟩:=hf 8 25 8 rfl
     rw[T.c 4 (by decide)] at f0 f1 f2 f3 f5
     rw[T.c 22 (by decide)] at f4
     rw[T.c 23 (by decide)] at f6
     rw[T.c 24 (by decide)] at f7
     rw[T.c 25 (by decide)] at f8
     have hb:bkD d0+bkD d1+bkD d2+bkD d3+bkD d4+bkD d5+bkD d6+bkD d7+bkD d8+1=bkD d:=by
      match ds,hdl,g0,g1,g2,g3,g4,g5,g6,g7,g8,hbk with
      | [e0,e1,e2,e3,e4,e5,e6,e7,e8],_,g0,g1,g2,g3,g4,g5,g6,g7,g8,hbk =>
        simp at g0 g1 g2 g3 g4 g5 g6 g7 g8
        subst g0 g1 g2 g3 g4 g5 g6 g7 g8
        simp only[bkDs] at hbk
        omega
     obtain⟨a0,r0,o0,z0⟩:=rd_bool T.b (k+1) _ _ _ f0 w0
     obtain⟨a1,r1,o1,z1⟩:=rd_bool T.b (k+1) _ _ _ f1 w1
     obtain⟨a2,r2,o2,z2⟩:=rd_bool T.b (k+1) _ _ _ f2 w2
     obtain⟨a3,r3,o3,z3⟩:=rd_bool T.b (k+1) _ _ _ f3 w3
     obtain⟨a4,r4,o4,z4⟩:=rd_slice T.l25 T.c106 (by omega) (T.bytes 64 (by decide)) (rd_span T k) _ _ _ f4 w4
     obtain⟨a5,r5,o5,z5⟩:=rd_bool T.b (k+1) _ _ _ f5 w5
     obtain⟨a6,r6,o6,z6⟩:=rd_slice T.l26 (T.c 9 (by decide)) (by omega) (T.bytes 9 (by decide)) (rd_str T.s k) _ _ _ f6 w6
     have hA:RdOk enc P W k 76 encArr wtA1:=by
      cases k with
      | zero=>exact rd_zero
      | succ k=>exact rd_arr T k (ih k (by omega))
     have hO:RdOk enc P W k 41 encObj wtO1:=by
      cases k with
      | zero=>exact rd_zero
      | succ k=>exact rd_obj T k fun j hj=>ih j (by omega)
     obtain⟨a7,r7,o7,z7⟩:=rd_slice T.l27 T.c98 (by omega) (T.bytes 76 (by decide)) hA _ _ _ f7 w7
     obtain⟨a8,r8,o8,z8⟩:=rd_slice T.l28 T.c57 (by omega) (T.bytes 41 (by decide)) hO _ _ _ f8 w8
     have e:cs=(cs.drop 0).take 1++((cs.drop 1).take 1++((cs.drop 2).take 1++((cs.drop 3).take 1++((cs.drop 4).take 1++((cs.drop 5).take 1++((cs.drop 6).take 1++((cs.drop 7).take 1++(cs.drop 8).take 1))))))):=by
      match cs,hl with
      | [c0,c1,c2,c3,c4,c5,c6,c7,c8],_=>rfl
     have z4':=wtL_ge (fun _:Span=>1) a4
     have y0:=bkD_ge d0
     have y1:=bkD_ge d1
     have y2:=bkD_ge d2
     have y3:=bkD_ge d3
     have y5:=bkD_ge d5
     rw[wtL_str] at z6
     rw[wtL_arr] at z7
     rw[wtL_obj] at z8
     refine⟨.mk a0 a1 a2 a3 a4 a5 a6 a7 a8,?_,fun u hu=>?_,by simp only[wtT]; omega⟩
     ·rw[e]
      simp only[encTy,encArrs_map,encObjs_map]
      exact rep_app (xs:=[_]) r0 (rep_app (xs:=[_]) r1 (rep_app (xs:=[_]) r2 (rep_app (xs:=[_]) r3 (rep_app (xs:=[_]) r4 (rep_app (xs:=[_]) r5 (rep_app (xs:=[_]) r6 (rep_app (xs:=[_]) r7 r8)))))))
     ·rw[e] at hu
      simp only[List.mem_append] at hu
      rcases hu with hu|hu|hu|hu|hu|hu|hu|hu|hu
      ·exact o0 _ hu
      ·exact o1 _ hu
      ·exact o2 _ hu
      ·exact o3 _ hu
      ·exact o4 _ hu
      ·exact o5 _ hu
      ·exact o6 _ hu
      ·exact o7 _ hu
      ·exact o8 _ hu
end
end Go.Proofs.YtbdogkmdanmojaaGreatDoor.Pv
namespace Go.Proofs.YtbdogkmdanmojaaGreatDoor.Pv
open Go Go.Tidy Go.RowKit
structure Op26 where
 call:Int
 op:Int
 name:S
 a:Ty
 b:Ty
 c:Ty
 args:Int
abbrev cQ (o:Op26):List PV:=[.int .i64 o.call,.int .i64 o.op,.str o.name]++(cT o.a++(cT o.b++(cT o.c++[.int .i64 o.args])))
structure TysQ (P:Program):Prop where
 c:P.cellsOf 29=31
 op:flds P 29=some [(3,0),(3,1),(9,2),(27,3),(27,12),(27,21),(3,30)]
section
variable {H:Type} {enc:TypeId × Value→H} {P:Program} {W:World}
theorem rd_strB {t:TypeId} (ht:P.underlying t=some .string):∀ k,RdOk enc P W k t (fun s : {s:S // s.size≤140737488351232}=>encStr s.1) fun _=>1
 | 0=>rd_zero
 | k+1=>fun cs d ps h hw=>by
   unfold DataW.trod at h
   rw[ht] at h
   simp only at h
   split at h
   all_goals (first|(cases h; done)|skip)
   all_goals (simp only[reduceCtorEq,Option.some.injEq] at *)
   rename_i s _
   split at h
   ·cases h
    have:=hw s.data.toList.length (by unfold DataW.weights; exact List.mem_singleton.2 rfl)
    have e:s.size=s.data.toList.length:=rfl
    have hs:s.size≤140737488351232:=by
     rw[e]; unfold reachBytes at this; omega
    exact⟨⟨s,hs⟩,rep_one ⟨rfl,by show s.size≤LIM; unfold LIM; omega⟩,by simp[Value.oneCell'],bkD_ge _⟩
   ·cases h
theorem rd_opQ (T:Tys P) (V:TysQ P) (k:Nat):RdOk enc P W k 29 (fun o : {o:Op26 // o.name.size≤140737488351232}=>cQ o.1) fun _=>1:=by
 cases k with
 | zero=>exact rd_zero
 | succ k =>
   intro cs d ps h hw
   obtain⟨hl,ds,hdl,hbk,hf⟩:=rd_struct V.op h hw
   rw[V.c] at hl
   obtain⟨d0,p0,g0,f0,w0⟩:=hf 0 3 0 rfl
   obtain⟨d1,p1,g1,f1,w1⟩:=hf 1 3 1 rfl
   obtain⟨d2,p2,g2,f2,w2⟩:=hf 2 9 2 rfl
   obtain⟨d3,p3,g3,f3,w3⟩:=hf 3 27 3 rfl
   obtain⟨d4,p4,g4,f4,w4⟩:=hf 4 27 12 rfl
   obtain⟨d5,p5,g5,f5,w5⟩:=hf 5 27 21 rfl
   obtain⟨d6,p6,g6,f6,w6⟩:=hf 6 3 30 rfl
   rw[T.c 3 (by decide)] at f0 f1 f6
   rw[T.c 9 (by decide)] at f2
   rw[T.c30] at f3 f4 f5
   obtain⟨a0,r0,o0,-⟩:=rd_int T.i k _ _ _ f0 w0
   obtain⟨a1,r1,o1,-⟩:=rd_int T.i k _ _ _ f1 w1
   obtain⟨a2,r2,o2,-⟩:=rd_strB T.s k _ _ _ f2 w2
   obtain⟨a3,r3,o3,-⟩:=rd_ty T k k (Nat.le_refl _) _ _ _ f3 w3
   obtain⟨a4,r4,o4,-⟩:=rd_ty T k k (Nat.le_refl _) _ _ _ f4 w4
   obtain⟨a5,r5,o5,-⟩:=rd_ty T k k (Nat.le_refl _) _ _ _ f5 w5
   obtain⟨a6,r6,o6,-⟩:=rd_int T.i k _ _ _ f6 w6
   have e:cs=((cs.drop 0).take 1++((cs.drop 1).take 1++(cs.drop 2).take 1))++((cs.drop 3).take 9++((cs.drop 12).take 9++((cs.drop 21).take 9++(cs.drop 30).take 1))):=by
    match cs,hl with
    | [c0,c1,c2,c3,c4,c5,c6,c7,c8,c9,c10,c11,c12,c13,c14,c15,c16,c17,c18,c19,c20,c21,c22,c23,c24,c25,c26,c27,c28,c29,c30],_=>rfl
   refine⟨⟨⟨a0,a1,a2.1,a3,a4,a5,a6⟩,a2.2⟩,?_,fun u hu=>?_,bkD_ge _⟩
   ·rw[e]
    rw[encTy_eq] at r3 r4 r5
    exact rep_app (xs:=[_,_,_]) (rep_app (xs:=[_]) r0 (rep_app (xs:=[_]) r1 (ys:=[_]) r2)) (rep_app r3 (rep_app r4 (rep_app r5 (ys:=[_]) r6)))
   ·rw[e] at hu
    simp only[List.mem_append] at hu
    rcases hu with (hu|hu|hu)|hu|hu|hu|hu
    ·exact o0 _ hu
    ·exact o1 _ hu
    ·exact o2 _ hu
    ·exact o3 _ hu
    ·exact o4 _ hu
    ·exact o5 _ hu
    ·exact o6 _ hu
theorem read_opQ (T:Tys P) (V:TysQ P) {v:Value} {d:DataW H} {ps:List MemPlace} {vs:Array Value} (hv:v=.agg vs) (h:DataW.Trod enc P W 0 (fun _=>true) true 29 v d ps) (hw:wOk P 29 d):∃ o:Op26,RepV W (dctx (allF W)) (.agg (cQ o)) v∧o.name.size≤140737488351232:=by
 obtain⟨fuel,h⟩:=h
 subst hv
 obtain⟨o,h1,h2,h3⟩:=rd_opQ T V fuel _ _ _ h hw
 exact⟨o.1,⟨vs,rfl,h1,h2⟩,o.2⟩
end
end Go.Proofs.YtbdogkmdanmojaaGreatDoor.Pv
set_option maxRecDepth 100000
namespace Go.Proofs.YtbdogkmdanmojaaGreatDoor.Pv
open Go Go.Tidy
set_option maxHeartbeats 8000000 in
theorem modest_step (f:Ty→Bool) (t:Ty) (hA:∀ a∈t.arrays,Ret prog M.F_ref12_Modest [.agg (cT a.item)] (.bool (f a.item))) (hR:∀ o∈t.objects,Ret prog M.F_ref12_Modest [.agg (cT o.rest)] (.bool (f o.rest))) (hF:∀ o∈t.objects,∀ x∈o.fields,Ret prog M.F_ref12_Modest [.agg (cT x)] (.bool (f x))) :
 Ret prog M.F_ref12_Modest [.agg (cT t)] (.bool (t.arrays.all (fun a=>!(decide (4<a.min)||(decide (8<a.max)||!f a.item)))&&t.objects.all fun o=>f o.rest&&o.fields.all f)):=by
 refine Ret.go hmix h_ref12_Modest (by simp) fun hb w0 F0 hG=>?_
 simp only[bndL,bndV,List.length_map,LIM,and_true,true_and] at hb
 obtain⟨⟨b1,_⟩,⟨b2,_⟩,⟨b3,_⟩,b4,b4'⟩:=hb
 obtain⟨pA,hpA⟩ : ∃ p:Arr→Bool,p=fun a=>!(decide (4<a.min)||(decide (8<a.max)||!f a.item)):=⟨_,rfl⟩
 obtain⟨pO,hpO⟩ : ∃ p:Ob→Bool,p=fun o=>f o.rest&&o.fields.all f:=⟨_,rfl⟩
 rw[← hpA,← hpO]
 generalize hB:(t.arrays.all pA&&t.objects.all pO)=B
 simp
 intro v
 obtain⟨J,hJ⟩ : ∃ J:Nat→Unit→Prop,J=fun k _=>AllTo pA t.arrays k:=⟨_,rfl⟩
 refine XLoop.cnt hmix t.arrays.length (fun k _=>⟨[(3,.int .i64 k),(1,.ptr (1,v) 9 0 0)],[((1,v),some ⟨9,[cT t],false,true⟩)]⟩) J () (by rw[hJ]; exact .zero) (by simp) fun k _ hk hj=>?_
 have hw:=wrap64 (n:=(k:Int)+1) (by omega) (by omega)
 have hj' : AllTo pA t.arrays k:=by rw[hJ] at hj; exact hj
 by_cases h1:k<t.arrays.length
 ·have no:pA t.arrays[k]=false→B=false:=fun h=>by rw[← hB,all_not h1 h]; rfl
  have yes:pA t.arrays[k]=true→J (k+1) ():=fun h=>by rw[hJ]; exact hj'.step h1 h
  have ih:=hA _ (List.getElem_mem h1)
  by_cases g1:4<t.arrays[k].min
  ·simp[h1,g1,no (by rw[hpA]; simp[g1])]
  by_cases g2:8<t.arrays[k].max
  ·simp[h1,g1,g2,no (by rw[hpA]; simp[g2])]
  simp[h1,g1,g2]
  refine XCall.ret ih ?_
  cases e:f t.arrays[k].item
  ·simp[h1,g1,g2,e,no (by rw[hpA]; simp[e])]
  ·simp[h1,g1,g2,e,hw]
   exact⟨(),yes (by rw[hpA]; simp[e,g1,g2])⟩
 ·have hAll:=hj'.all h1
  rw[hAll,Bool.true_and] at hB
  simp[h1]
  obtain⟨J2,hJ2⟩ : ∃ J:Nat→Unit→Prop,J=fun k _=>AllTo pO t.objects k:=⟨_,rfl⟩
  refine XLoop.cnt hmix t.objects.length (fun k _=>⟨[(4,.int .i64 k),(1,.ptr (1,v) 9 0 0)],[((1,v),some ⟨9,[cT t],false,true⟩)]⟩) J2 () (by rw[hJ2]; exact .zero) (by simp) fun i _ hi hj2=>?_
  have hw2:=wrap64 (n:=(i:Int)+1) (by omega) (by omega)
  have hj2' : AllTo pO t.objects i:=by rw[hJ2] at hj2; exact hj2
  by_cases h2:i<t.objects.length
  ·have no:pO t.objects[i]=false→B=false:=fun h=>by rw[← hB,all_not h2 h]
   have yes:pO t.objects[i]=true→J2 (i+1) ():=fun h=>by rw[hJ2]; exact hj2'.step h2 h
   have r:=hR _ (List.getElem_mem h2)
   have hof:t.objects[i].fields.length≤140737488355328:=by
    have:=bndR_map b4' t.objects[i] (List.getElem_mem h2)
    simp only[encObj_eq,bndL,bndV,List.length_map,LIM,and_true] at this
    omega
   simp[h2]
   refine XCall.ret r ?_
   cases e:f t.objects[i].rest
   ·simp[h2,e,no (by rw[hpO]; simp[e])]
   simp[h2,e]
   obtain⟨J3,hJ3⟩ : ∃ J:Nat→Unit→Prop,J=fun k _=>AllTo f t.objects[i].fields k:=⟨_,rfl⟩
   refine XLoop.cnt hmix t.objects[i].fields.length (fun k _=>⟨[(5,.int .i64 k),(4,.int .i64 i),(1,.ptr (1,v) 9 0 0)],[((1,v),some ⟨9,[cT t],false,true⟩)]⟩) J3 () (by rw[hJ3]; exact .zero) (by simp) fun j _ hj3 hj4=>?_
   have hw3:=wrap64 (n:=(j:Int)+1) (by omega) (by omega)
   have hj4' : AllTo f t.objects[i].fields j:=by rw[hJ3] at hj4; exact hj4
   by_cases h3:j<t.objects[i].fields.length
   ·have x:=hF _ (List.getElem_mem h2) _ (List.getElem_mem h3)
    simp[h2,h3]
    refine XCall.ret x ?_
    cases e3:f t.objects[i].fields[j]
    ·simp[h2,h3,e3,no (by rw[hpO]; simp only[e,Bool.true_and]; exact all_not h3 e3)]
    ·simp[h2,h3,e3,hw3]
     exact⟨(),by rw[hJ3]; exact hj4'.step h3 e3⟩
   ·simp[h2,h3,hw2]
    exact⟨(),yes (by rw[hpO]; simp only[e,Bool.true_and]; exact hj4'.all h3)⟩
  ·have:B=true:=by rw[← hB]; exact hj2'.all h2
   simp[h2,this]
theorem modest_ex:∀ n,∃ f:Ty→Bool,∀ t,SizeOf.sizeOf t<n→Ret prog M.F_ref12_Modest [.agg (cT t)] (.bool (f t))
 | 0=>⟨fun _=>true,fun _ h=>by omega⟩
 | n+1=>by
   obtain⟨f,hf⟩:=modest_ex n
   refine⟨_,fun t ht=>modest_step f t (fun a ha=>hf _ ?_) (fun o ho=>hf _ ?_) fun o ho x hx=>hf _ ?_⟩
   ·have:=sz_item ha; omega
   ·have:=sz_rest ho; omega
   ·have:=sz_field ho hx; omega
theorem c_ref12_Modest:∃ f:Ty→Bool,∀ t,Ret prog M.F_ref12_Modest [.agg (cT t)] (.bool (f t)):=by
 have h:∀ t,∃ b,Ret prog M.F_ref12_Modest [.agg (cT t)] (.bool b):=fun t=>by
  obtain⟨f,hf⟩:=modest_ex (SizeOf.sizeOf t+1)
  exact⟨_,hf t (by omega)⟩
 exact⟨fun t=>(h t).choose,fun t=>(h t).choose_spec⟩
theorem c_law26_pieces (t:Ty):Ret prog M.F_law26_pieces [.agg (cT t)] (.int .i64 (IntKind.i64.wrap (IntKind.i64.wrap (IntKind.i64.wrap (8+(t.texts.length:Int))+t.arrays.length)+t.objects.length))):=by
 refine Ret.go hmix h_law26_pieces (by simp) fun hb w0 F0 hG=>?_
 simp
theorem c_law26_same0:Ret prog M.F_law26_same [.agg nvC,.agg nvC] (.bool true):=by
 have c:Ret prog M.F_kit_SameType [.agg nvC,.agg nvC] (.bool true):=by
  have c:=c_kit_SameType tNever tNever
  have e:eqv tNever tNever=true:=by simp[eqv]
  first|(rw[e] at c; exact c)|exact c
 refine Ret.go hmix h_law26_same (by simp) fun hb w0 F0 hG=>?_
 simp
 intros
 refine XCall.ret (by first|exact c|(simpa using c)) ?_
 simp
end Go.Proofs.YtbdogkmdanmojaaGreatDoor.Pv
set_option maxRecDepth 100000
namespace Go.Proofs.YtbdogkmdanmojaaGreatDoor.Pv
open Go Go.Tidy
def argsL (n:Int) (b d:Ty):List Ty:=if n<1 then [] else if n=1 then [b] else if n=2 then [b,d] else if n=3 then [b,d,d] else if n=4 then [b,d,d,d] else [b,d,d,d,d]
set_option maxHeartbeats 8000000 in
theorem c_law26_args (o:Op26):RetO prog M.F_law26_Op_args [.agg (cQ o)] 9 ((argsL o.args o.b o.c).map encTy):=by
 refine RetO.go hmix h_law26_Op_args (by simp) fun hb w0 F0 hG=>?_
 obtain⟨call,op,name,a,b,d,n⟩:=o
 simp only[argsL]
 by_cases g0:n<1
 ·simp[g0]
 by_cases g1:n=1
 ·simp[g1,encTy_eq]
 have w2:IntKind.i64.wrap 3=3:=wrap64 (by omega) (by omega)
 have w3:IntKind.i64.wrap 4=4:=wrap64 (by omega) (by omega)
 have w4:IntKind.i64.wrap 5=5:=wrap64 (by omega) (by omega)
 by_cases g2:n=2
 ·simp[g2]
  intros
  refine XLoop.rnd hmix (.s .z) ?_
  simp[XRnd_s,g2,encTy_eq]
 have h2:2<n:=by omega
 by_cases g3:n=3
 ·simp[g3]
  intros
  refine XLoop.rnd hmix (.s (.s .z)) ?_
  simp[XRnd_s,g3,w2,encTy_eq]
 have h3:3<n:=by omega
 by_cases g4:n=4
 ·simp[g4]
  intros
  refine XLoop.rnd hmix (.s (.s (.s .z))) ?_
  simp[XRnd_s,g4,w2,w3,encTy_eq]
 have h4:4<n:=by omega
 simp[XRnd_s,g0,g1,g2,g3,g4]
 intros
 refine XLoop.rnd hmix (.s (.s (.s (.s .z)))) ?_
 simp[XRnd_s,g0,g1,g2,g3,g4,h2,h3,h4,w2,w3,w4,encTy_eq]
theorem argsL_len (n:Int) (b d:Ty):(argsL n b d).length≤5:=by
 unfold argsL
 split
 ·simp
 split
 ·simp
 split
 ·simp
 split
 ·simp
 split<;>simp
theorem argsL_mem {n:Int} {b d t:Ty} (h:t∈argsL n b d):t=b∨t=d:=by
 unfold argsL at h
 split at h
 ·simp at h
 split at h
 ·simp at h; exact .inl h
 split at h
 ·simpa using h
 split at h
 ·simpa using h
 split at h
 ·simpa using h
 ·simpa using h
def askE (o:Op26):Int:=if o.call=0 then arE o.op (formedT o.a&&formedT o.b) else if o.call=1 then 0 else if o.call=2 then (if formedT o.a&&formedT o.b then 0 else 1) else if o.call=3 then (if formedT o.b&&formedT o.c then 0 else 1) else if o.call=4 then 0 else prE o.name (argsL o.args o.b o.c)
set_option maxHeartbeats 8000000 in
theorem c_law26_asks (hA:AllNil) (o:Op26) (hn:o.name.size≤140737488355000) (h:o.a=tNever∨(o.call=0∨o.call=2)∧o.b=tNever) (la:o.a.objects.length≤34359738368) (lb:o.b.objects.length≤34359738368) (lc:o.c.objects.length≤34359738368) :
 Ret prog M.F_law26_asks [.agg (cQ o)] (.tup [.agg nvC,.agg nvC,.int .i64 (askE o)]):=by
 have cg:=c_law26_args o
 obtain⟨call,op,name,a,b,d,n⟩:=o
 simp only at *
 have c0:=c_rules_Arith0 hA op a b
 have c2:=c_rules_Index0 hA a b
 have c5:=c_rules_Prim0 hA name hn (argsL n b d) (argsL_len n b d) fun t ht=>by rcases argsL_mem ht with rfl|rfl<;>assumption
 by_cases g0:call=0
 ·have e:askE ⟨call,op,name,a,b,d,n⟩=arE op (formedT a&&formedT b):=by simp[askE,g0]
  have c:=c0 (by rcases h with h|h; exact .inl h; exact .inr h.2) la lb
  rw[e]
  generalize arE op (formedT a&&formedT b)=E at *
  refine Ret.go hmix h_law26_asks (by simp) fun hb w0 F0 hG=>?_
  simp[g0]
  intros
  refine XCall.ret (by first|exact c|(simpa using c)) ?_
  simp
 by_cases g2:call=2
 ·have e:askE ⟨call,op,name,a,b,d,n⟩=if formedT a&&formedT b then 0 else 1:=by simp[askE,g2]
  have c:=c2 (by rcases h with h|h; exact .inl h; exact .inr h.2) la lb
  rw[e]
  generalize (if formedT a&&formedT b then (0:Int) else 1)=E at *
  refine Ret.go hmix h_law26_asks (by simp) fun hb w0 F0 hG=>?_
  simp[g2]
  intros
  refine XCall.ret (by first|exact c|(simpa using c)) ?_
  simp
 have ha:a=tNever:=by
  rcases h with h|h
  ·exact h
  ·exfalso; rcases h.1 with h|h
   ·exact g0 h
   ·exact g2 h
 subst ha
 by_cases g1:call=1
 ·have e:askE ⟨call,op,name,tNever,b,d,n⟩=0:=by simp[askE,g1]
  have c:=c_rules_Neg0 hA
  rw[e]
  refine Ret.go hmix h_law26_asks (by simp) fun hb w0 F0 hG=>?_
  simp[g1,tNever]
  intros
  refine XCall.ret (by first|exact c|(simpa using c)) ?_
  simp
 by_cases g3:call=3
 ·have e:askE ⟨call,op,name,tNever,b,d,n⟩=if formedT b&&formedT d then 0 else 1:=by simp[askE,g3]
  have c:=c_rules_Slice0 hA b d
  rw[e]
  generalize (if formedT b&&formedT d then (0:Int) else 1)=E at *
  refine Ret.go hmix h_law26_asks (by simp) fun hb w0 F0 hG=>?_
  simp[g3,tNever]
  intros
  refine XCall.ret (by first|exact c|(simpa using c)) ?_
  simp
 by_cases g4:call=4
 ·have e:askE ⟨call,op,name,tNever,b,d,n⟩=0:=by simp[askE,g4]
  have c:=c_rules_Each0 hA
  rw[e]
  refine Ret.go hmix h_law26_asks (by simp) fun hb w0 F0 hG=>?_
  simp[g4,tNever]
  intros
  refine XCall.ret (by first|exact c|(simpa using c)) ?_
  simp
 have e:askE ⟨call,op,name,tNever,b,d,n⟩=prE name (argsL n b d):=by simp[askE,g0,g1,g2,g3,g4]
 rw[e]
 generalize prE name (argsL n b d)=E at *
 generalize argsL n b d=L at *
 refine Ret.go hmix h_law26_asks (by simp) fun hb w0 F0 hG=>?_
 simp[g0,g1,g2,g3,g4,tNever]
 intros
 refine XDCall.retO (by first|exact cg|(simpa[tNever] using cg)) ?_
 simp
 refine XDCall.ret (by first|exact c5|(simpa using c5)) ?_
 simp
end Go.Proofs.YtbdogkmdanmojaaGreatDoor.Pv
set_option maxRecDepth 100000
namespace Go.Proofs.YtbdogkmdanmojaaGreatDoor.Pv
open Go Go.Tidy
theorem fit_objs {t:Ty} (h:fitB t=true):t.objects.length≤34359738368:=by
 obtain⟨_,h2,h3⟩:=fit_bdT (of_decide_eq_true h)
 cases t
 have:=h3.2.1
 simp only[Ty.objects]
 omega
set_option maxHeartbeats 8000000 in
theorem c_law26_fits (o:Op26):∃ q,Ret prog M.F_law26_fits [.agg (cQ o)] (.bool q)∧(q=true→fitB o.a=true∧fitB o.b=true∧fitB o.c=true):=by
 obtain⟨mf,cm⟩:=c_ref12_Modest
 obtain⟨call,op,name,a,b,d,n⟩:=o
 have pA:=c_law26_pieces a
 have pB:=c_law26_pieces b
 have pC:=c_law26_pieces d
 generalize (IntKind.i64.wrap (IntKind.i64.wrap (IntKind.i64.wrap (8+(a.texts.length:Int))+a.arrays.length)+a.objects.length))=nA at *
 generalize (IntKind.i64.wrap (IntKind.i64.wrap (IntKind.i64.wrap (8+(b.texts.length:Int))+b.arrays.length)+b.objects.length))=nB at *
 generalize (IntKind.i64.wrap (IntKind.i64.wrap (IntKind.i64.wrap (8+(d.texts.length:Int))+d.arrays.length)+d.objects.length))=nC at *
 obtain⟨asked,hask⟩ : ∃ q:Bool,q=(decide (call=0)&&(decide (op=19)||decide (op=20))):=⟨_,rfl⟩
 obtain⟨pF,hpF⟩ : ∃ p:Ty→Bool,p=fun t=>fitB t&&!((asked&&formedT t)&&(decide (40<heightT t)||!mf t)):=⟨_,rfl⟩
 obtain⟨two,htwo⟩ : ∃ m:Int,m=IntKind.i64.wrap (nA*nB):=⟨_,rfl⟩
 obtain⟨L,hL⟩ : ∃ L:List Ty,L=[a,b,d]:=⟨_,rfl⟩
 have hL3:L.length=3:=by rw[hL]; rfl
 obtain⟨B,hB⟩ : ∃ B:Bool,B=(L.all pF&&(decide (two≤4000)&&decide (IntKind.i64.wrap (two*nC)≤100000))):=⟨_,rfl⟩
 refine⟨B,?_,fun hq=>?_⟩
 rotate_left
 ·rw[hB,hL,hpF] at hq
  simp only[List.all_cons,Bool.and_eq_true] at hq
  exact⟨hq.1.1.1,hq.1.2.1.1,hq.1.2.2.1.1⟩
 refine Ret.go hmix h_law26_fits (by simp) fun hb w0 F0 hG=>?_
 have hS:∀ (v1 v13:Nat) (st:St),LS st ⟨[(5,.int .i64 0),(4,.bool asked),(3,.own (13,v13) 9 0 3 true),(1,.ptr (1,v1) 31 0 0)],[((13,v13),some ⟨9,L.map encTy,false,false⟩),((1,v1),some ⟨31,[cQ ⟨call,op,name,a,b,d,n⟩],false,true⟩)]⟩ →
  XLoop ⟨prog,w0,F0,80,[],0,hG⟩ (.loop M.b_law26_fits_0) st [.bk 0,.sq M.t_law26_fits_0] (retIs M.rs_law26_fits (.bool B)):=fun v1 v13 st hst=>by
  obtain⟨J,hJ⟩ : ∃ J:Nat→Unit→Prop,J=fun k _=>AllTo pF L k:=⟨_,rfl⟩
  refine XLoop.cnt hmix 3 (fun k _=>⟨[(5,.int .i64 k),(4,.bool asked),(3,.own (13,v13) 9 0 3 true),(1,.ptr (1,v1) 31 0 0)],[((13,v13),some ⟨9,L.map encTy,false,false⟩),((1,v1),some ⟨31,[cQ ⟨call,op,name,a,b,d,n⟩],false,true⟩)]⟩) J () (by rw[hJ]; exact .zero) (by simpa using hst) fun k _ hk hj=>?_
  have hw:=wrap64 (n:=(k:Int)+1) (by omega) (by omega)
  have hj' : AllTo pF L k:=by rw[hJ] at hj; exact hj
  by_cases h1:k<3
  ·have h1' : (k:Int)<3:=by omega
   have hkL:k<L.length:=by omega
   have no:pF L[k]=false→B=false:=fun h=>by rw[hB,all_not hkL h]; rfl
   have yes:pF L[k]=true→J (k+1) ():=fun h=>by rw[hJ]; exact hj'.step hkL h
   have f1:=c_kit_FitType L[k]
   have f2:=c_ref09_Formed L[k]
   have f4:=cm L[k]
   simp[h1,h1',hkL]
   refine XCall.ret f1 ?_
   cases e1:fitB L[k]
   ·simp[h1,h1',hkL,e1,no (by rw[hpF]; simp[e1])]
   have f3:=c_ref09_Height L[k] (fit_height e1)
   cases e0:asked
   ·simp[h1,h1',hkL,e0,e1,hw]
    exact⟨(),yes (by rw[hpF]; simp[e0,e1])⟩
   simp[h1,h1',hkL,e0,e1]
   refine XCall.ret f2 ?_
   cases e2:formedT L[k]
   ·simp[h1,h1',hkL,e0,e1,e2,hw]
    exact⟨(),yes (by rw[hpF]; simp[e0,e1,e2])⟩
   simp[h1,h1',hkL,e0,e1,e2]
   refine XCall.ret f3 ?_
   by_cases e3:40<heightT L[k]
   ·have e3' : (40:Int)<heightT L[k]:=by omega
    simp[h1,h1',hkL,e0,e1,e2,e3,e3',no (by rw[hpF]; simp[e0,e1,e2,e3])]
   have e3' : ¬ (40:Int)<heightT L[k]:=by omega
   simp[h1,h1',hkL,e0,e1,e2,e3,e3']
   refine XCall.ret f4 ?_
   cases e4:mf L[k]
   ·simp[h1,h1',hkL,e0,e1,e2,e3,e3',e4,no (by rw[hpF]; simp[e0,e1,e2,e4])]
   ·simp[h1,h1',hkL,e0,e1,e2,e3,e3',e4,hw]
    exact⟨(),yes (by rw[hpF]; simp[e0,e1,e2,e3,e4])⟩
  ·have h1' : ¬ (k:Int)<3:=by omega
   have hall:=hj'.all (by omega:¬ k<L.length)
   rw[hall,Bool.true_and] at hB
   simp[h1,h1']
   intros
   refine XDCall.ret (by first|exact pA|(simpa using pA)) ?_
   simp
   refine XDCall.ret (by first|exact pB|(simpa using pB)) ?_
   by_cases g1:two≤4000
   ·simp[← htwo,g1]
    refine XCall.ret (by first|exact pC|(simpa using pC)) ?_
    simp[hB,g1]
   ·simp[← htwo,g1,hB]
 simp
 intro v1 v13
 by_cases g0:call=0
 ·by_cases g1:op=19
  ·have ha:asked=true:=by rw[hask]; simp[g0,g1]
   simp[g0,g1]
   exact hS v1 v13 _ (by simp[hL,encTy_eq,ha,g0,g1])
  by_cases g2:op=20
  ·have ha:asked=true:=by rw[hask]; simp[g0,g2]
   simp[g0,g2]
   exact hS v1 v13 _ (by simp[hL,encTy_eq,ha,g0,g2])
  ·have ha:asked=false:=by rw[hask]; simp[g0,g1,g2]
   simp[g0,g1,g2]
   exact hS v1 v13 _ (by simp[hL,encTy_eq,ha,g0])
 ·have ha:asked=false:=by rw[hask]; simp[g0]
  simp[g0]
  exact hS v1 v13 _ (by simp[hL,encTy_eq,ha])
set_option maxHeartbeats 8000000 in
theorem c_law26_RulesNever (hA:AllNil) (hF:Ret prog M.F_law26_fixed [] (.bool true)) (o:Op26) (hn:o.name.size≤140737488355000):Ret prog M.F_law26_RulesNever [.agg (cQ o)] (.bool true):=by
 obtain⟨call,op,name,a,b,d,n⟩:=o
 obtain⟨q,cf,hq⟩:=c_law26_fits ⟨call,op,name,tNever,b,d,n⟩
 have cs:=c_law26_same0
 cases q
 ·refine Ret.go hmix h_law26_RulesNever (by simp) fun hb w0 F0 hG=>?_
  simp
  intros
  refine XCall.ret hF ?_
  simp
  refine XCall.ret (r:=.bool false) (by first|exact cf|(simpa[tNever] using cf)) ?_
  simp
 obtain⟨fa,fb,fc⟩:=hq rfl
 have la:=fit_objs fa
 have lb:=fit_objs fb
 have lc:=fit_objs fc
 have c1:=c_law26_asks hA ⟨call,op,name,tNever,b,d,n⟩ hn (.inl rfl) la lb lc
 by_cases hE:askE ⟨call,op,name,tNever,b,d,n⟩=0
 rotate_left
 ·generalize askE ⟨call,op,name,tNever,b,d,n⟩=E at *
  refine Ret.go hmix h_law26_RulesNever (by simp) fun hb w0 F0 hG=>?_
  simp
  intros
  refine XCall.ret hF ?_
  simp
  refine XCall.ret (r:=.bool true) (by first|exact cf|(simpa[tNever] using cf)) ?_
  simp
  refine XCall.ret (by first|exact c1|(simpa[tNever] using c1)) ?_
  simp[hE]
  intros
  refine XCall.ret (by first|exact cs|(simpa using cs)) ?_
  simp
  refine XCall.ret (by first|exact cs|(simpa using cs)) ?_
  simp
 by_cases g:call=0∨call=2
 ·have c2:=c_law26_asks hA ⟨call,op,name,b,tNever,d,n⟩ hn (.inr ⟨g,rfl⟩) lb la lc
  have hE2:askE ⟨call,op,name,b,tNever,d,n⟩=0:=by
   have fn:=formed_nv
   rcases g with g|g<;>subst g<;>simp[askE,fn] at hE ⊢<;>exact hE
  rw[hE] at c1
  rw[hE2] at c2
  refine Ret.go hmix h_law26_RulesNever (by simp) fun hb w0 F0 hG=>?_
  simp
  intros
  refine XCall.ret hF ?_
  simp
  refine XCall.ret (r:=.bool true) (by first|exact cf|(simpa[tNever] using cf)) ?_
  simp
  refine XCall.ret (by first|exact c1|(simpa[tNever] using c1)) ?_
  simp
  intros
  refine XCall.ret (by first|exact cs|(simpa using cs)) ?_
  simp
  refine XCall.ret (by first|exact cs|(simpa using cs)) ?_
  simp
  refine XCut.go hmix ?_
  rcases g with g|g<;>subst g
  ·simp
   refine XCall.ret (by first|exact c2|(simpa[tNever] using c2)) ?_
   simp
   refine XCall.ret (by first|exact cs|(simpa using cs)) ?_
   simp
   refine XCall.ret (by first|exact cs|(simpa using cs)) ?_
   simp
  ·simp
   refine XCall.ret (by first|exact c2|(simpa[tNever] using c2)) ?_
   simp
   refine XCall.ret (by first|exact cs|(simpa using cs)) ?_
   simp
   refine XCall.ret (by first|exact cs|(simpa using cs)) ?_
   simp
 ·have g0:call≠0:=fun h=>g (.inl h)
  have g2:call≠2:=fun h=>g (.inr h)
  rw[hE] at c1
  refine Ret.go hmix h_law26_RulesNever (by simp) fun hb w0 F0 hG=>?_
  simp
  intros
  refine XCall.ret hF ?_
  simp
  refine XCall.ret (r:=.bool true) (by first|exact cf|(simpa[tNever] using cf)) ?_
  simp
  refine XCall.ret (by first|exact c1|(simpa[tNever] using c1)) ?_
  simp
  intros
  refine XCall.ret (by first|exact cs|(simpa using cs)) ?_
  simp
  refine XCall.ret (by first|exact cs|(simpa using cs)) ?_
  simp
  refine XCut.go hmix ?_
  simp[g0,g2]
  refine XCall.ret (by first|exact cs|(simpa using cs)) ?_
  simp
  refine XCall.ret (by first|exact cs|(simpa using cs)) ?_
  simp
end Go.Proofs.YtbdogkmdanmojaaGreatDoor.Pv
namespace Go.Proofs.YtbdogkmdanmojaaGreatDoor.Pv
open Go Go.RowKit
theorem c_stringslite_Clone (s:ByteArray):Ret prog M.F_stringslite_Clone [.str s] (.str s):=by
 refine⟨by kernel_rfl,fun w F vs hG hF hr=>?_⟩
 obtain⟨v,us,rfl,hv,hus⟩:=hr
 obtain rfl:us=[]:=hus
 obtain⟨rfl,h0⟩:=hv
 have h:Calls prog M.F_stringslite_Clone #[.string s] w _:=Any.stringslite_Clone Tryz.laysClone s w (by simp[LIM] at h0; omega)
 refine Calls.mono h ?_
 rintro e w' ⟨rfl,hb⟩
 exact⟨_,F,rfl,Bel.of hb,fun _ h=>h,fun b hb'=>⟨Nat.lt_of_lt_of_le (hF b hb') hb.size,.inl hb'⟩,⟨rfl,h0⟩⟩
theorem itoa0:itoaS 0=⟨#[48]⟩:=by
 unfold itoaS
 simp[Lib.itoa,Lib.decDigits]
theorem itoa1:itoaS 1=⟨#[49]⟩:=by
 unfold itoaS
 simp[Lib.itoa,Lib.decDigits]
end Go.Proofs.YtbdogkmdanmojaaGreatDoor.Pv
namespace Go.Proofs.YtbdogkmdanmojaaGreatDoor.Pv
open Go Go.RowKit
def okOptB (cb want:Bool):PV→Bool
 | .opt b' _=>cb != want||b'
 | _=>true
theorem okOptB_ok {cb want:Bool} {x:PV} (h:okOptB cb want x=true):okOpt cb want x:=by
 cases x<;>first|trivial|skip
 rename_i b y
 intro e
 subst e
 simpa[okOptB] using h
def optOkB (gb:Bool):PV→Bool
 | .opt b' _=>!gb||b'
 | _=>true
def optsOkB (gb:Bool) (get:MO→PV):List MO→Bool
 | []=>true
 | x::xs=>optOkB gb (get x)&&optsOkB gb get xs
theorem optsOkB_ok {gb:Bool} {get:MO→PV}:∀ xs,optsOkB gb get xs=true→optsOk gb get xs
 | [],_=>trivial
 | x::xs,h=>by
   simp only[optsOkB,Bool.and_eq_true] at h
   refine⟨?_,optsOkB_ok xs h.2⟩
   have h1:=h.1
   generalize get x=y at *
   cases y<;>first|trivial|skip
   rename_i b z
   intro e
   subst e
   simpa[optOkB] using h1
def isRunB:PV→Bool
 | .opt b _=>b
 | _=>true
theorem isRunB_ok {x:PV} (h:isRunB x=true):isRun x:=by
 cases x<;>first|trivial|exact h
def rowsB (hl:Key→Option HE):PV→Bool
 | .own g _ off len _=>match hl g with
   | some e=>!e.bx&&decide (off+len≤e.xs.length)
   | none=>false
 | _=>true
theorem rowsB_ok {hl:Key→Option HE} {x:PV} {po:Prop} {xe:Nat} {rd:List Nat} {cx:List (List PV)} (h:rowsOf hl x=some (po,xe,rd,cx)) (hb:rowsB hl x=true):po:=by
 unfold rowsOf at h
 split at h
 ·cases h; trivial
 ·split at h
  ·rename_i e he
   cases h
   simp only[rowsB,he,Bool.and_eq_true,Bool.not_eq_true',decide_eq_true_eq] at hb
   exact hb
  ·cases h
 ·cases h; trivial
 ·cases h
def preB (get:MO→PV) (hl:Key→Option HE):MI→Bool
 | .pick c a b=>isRunB (get c)&&match strip (get c) with
   | .bool cb=>okOptB cb true (get a)&&okOptB cb false (get b)
   | _=>false
 | .box x=>storable (get x)
 | .build z ps=>fillOkB z.length (ps.map fun p=>(p.1,p.2.1,get p.2.2))
 | .bslice esz z n ps=>fillROkB esz n (ps.map fun p=>(p.1,reify hl (get p.2)))&&okLB hl (ps.map fun p=>get p.2)&&decide (z.length=esz)&&decide (0<esz)&&decide (n≤1024)
 | .load a n ag=>match get a with
   | .ref cs=>decide (n≤cs.length)&&(ag||decide (n=1))
   | .ptr g _ i off=>match hl g with
     | some e=>decide (i<e.xs.length)&&decide (off+n≤(e.xs.getD i []).length)&&(ag||decide (n=1))
     | none=>false
   | _=>false
 | .store a x n=>match get a with
   | .ptr g _ i off=>match hl g with
     | some e=>if e.bx then decide (i<e.xs.length)&&decide (off+n≤(e.xs.getD i []).length)&&decide ((cells (get x)).length=n)&&storable (get x)
       else decide (i<e.xs.length)&&decide (off+n≤(e.xs.getD i []).length)&&decide ((cells (reify hl (get x))).length=n)&&storable (reify hl (get x))&&okVB hl (get x)&&!(keysOf hl (get x)).contains g
     | none=>false
   | _=>false
 | .bin op _ x y=>binB op (get x) (get y)
 | .field x off n ag=>match get x with
   | .agg cs=>decide (off+n≤cs.length)&&(ag||decide (n=1))
   | _=>false
 | .iaddr x i _=>match get x,get i with
   | .vec _ _ xs,.int _ n=>decide (0≤n)&&decide (n<xs.length)
   | .own _ _ _ len _,.int _ n=>decide (0≤n)&&decide (n<len)
   | _,_=>false
 | .iaddrp _ i len _=>match get i with
   | .int _ n=>decide (0≤n)&&decide (n<len)
   | _=>false
 | .sidx x i=>match get x,get i with
   | .str s,.int _ n=>decide (0≤n)&&decide (n<s.size)
   | _,_=>false
 | .aidx x i len esz ag=>match get x,get i with
   | .agg cs,.int _ n=>decide (0≤n)&&decide (n<len)&&decide (cs.length=len*esz)&&(ag||decide (esz=1))
   | _,_=>false
 | .slc x esz lo hi mx=>match get x with
   | .vec esz' _ xs=>match bounds xs.length (lo.map get) (hi.map get),mxOf get mx with
     | some (l,h),some none=>(xs.isEmpty||decide (esz'=esz))&&decide (0≤l)&&decide (l≤h)&&decide (h≤xs.length)
     | some (l,h),some (some m)=>(xs.isEmpty||decide (esz'=esz))&&decide (0≤l)&&decide (l≤h)&&decide (h≤m)&&decide (m≤xs.length)
     | _,_=>false
   | .own _ _ _ len _=>match bounds len (lo.map get) (hi.map get),mxOf get mx with
     | some (l,h),some none=>decide (0≤l)&&decide (l≤h)&&decide (h≤len)
     | some (l,h),some (some m)=>decide (0≤l)&&decide (l≤h)&&decide (h≤m)&&decide (m≤len)
     | _,_=>false
   | _=>false
 | .sslc x lo hi=>match get x with
   | .str s=>match bounds s.size (lo.map get) (hi.map get) with
     | some (l,h)=>decide (0≤l)&&decide (l≤h)&&decide (h≤s.size)
     | none=>false
   | _=>false
 | .ext x i=>match get x with
   | .tup vs=>decide (i<vs.length)
   | _=>false
 | .app s x esz=>rowsB hl (get x)&&(match rowsOf hl (get x) with
   | some (_,xe,_,cx)=>match get s with
     | .vec esz' full xs=>if nilV full xs&&esz' == esz then (cx.isEmpty||decide (xe=esz))&&decide (0<esz)&&decide (cx.length≤68719476736)
       else cx.isEmpty||decide (0<cx.length)&&decide (xe=esz)&&(xs.isEmpty||decide (esz'=esz))&&decide (0<esz)&&decide (xs.length+cx.length≤68719476736)
     | .own g _ off len _=>match hl g with
       | some e=>(cx.isEmpty||decide (xe=esz))&&decide (off+len≤e.xs.length)&&decide (len+cx.length≤68719476736)
       | none=>false
     | _=>false
   | none=>false)
 | .appz s n esz z=>match get n with
   | .int _ k=>decide (z.length=esz)&&decide (0<esz)&&decide (1≤k)&&decide (k≤34359738368)
   | _=>false
 | .b2s x=>rowsB hl (get x)&&(match rowsOf hl (get x) with
   | some (_,_,_,cx)=>decide (cx.length≤LIM)
   | none=>false)
 | .mksl esz z l c=>match get l,get c with
   | .int _ n,.int _ m=>decide (z.length=esz)&&decide (0<esz)&&decide (0≤n)&&decide (n≤m)&&decide (m≤34359738368)
   | _,_=>false
 | .clr x esz=>match get x with
   | .own g _ off len _=>match hl g with
     | some e=>decide (off+len≤e.xs.length)
     | none=>false
   | _=>true
 | _=>true
theorem preB_ok {key:Key} {get:MO→PV} {hl:Key→Option HE} {i:MI} {out:Out} (hs:opSem key get hl i=some out) (hb:preB get hl i=true):out.pre:=by
 cases i with
 | pick c a b =>
   simp only[opSem] at hs
   simp only[preB] at hb
   split at hs
   ·rename_i cb hc
    cases hs
    simp only[hc,Bool.and_eq_true] at hb
    exact⟨isRunB_ok hb.1,okOptB_ok hb.2.1,okOptB_ok hb.2.2⟩
   ·cases hs
 | box x=>simp only[opSem,Option.some.injEq] at hs; subst hs; exact hb
 | build z ps=>simp only[opSem,Option.some.injEq] at hs; subst hs; exact fillOkB_ok _ hb
 | bslice esz z n ps =>
   simp only[opSem,Option.some.injEq] at hs; subst hs
   simp only[preB,Bool.and_eq_true,decide_eq_true_eq] at hb
   obtain⟨⟨⟨⟨h1,h2⟩,h3⟩,h4⟩,h5⟩:=hb
   exact⟨fillROkB_ok _ h1,okLB_ok _ h2,h3,h4,h5⟩
 | load a n ag =>
   simp only[opSem] at hs
   simp only[preB] at hb
   split at hs
   ·rename_i cs hx
    cases hs
    simp only[hx,Bool.and_eq_true,decide_eq_true_eq,Bool.or_eq_true] at hb
    exact⟨hb.1,fun h=>hb.2.resolve_left (by simp[h])⟩
   ·rename_i g esz i off hx
    split at hs
    ·rename_i e he
     cases hs
     simp only[hx,he,Bool.and_eq_true,decide_eq_true_eq,Bool.or_eq_true] at hb
     exact⟨hb.1.1,hb.1.2,fun h=>hb.2.resolve_left (by simp[h])⟩
    ·cases hs
   ·cases hs
 | store a x n =>
   simp only[opSem] at hs
   simp only[preB] at hb
   split at hs
   ·rename_i g esz i off hx
    split at hs
    ·rename_i e he
     split at hs
     ·cases hs
     ·split at hs
      ·rename_i hbx
       cases hs
       simp only[hx,he,hbx,if_true,Bool.and_eq_true,decide_eq_true_eq] at hb
       exact⟨hb.1.1.1,hb.1.1.2,hb.1.2,hb.2⟩
      ·rename_i hbx
       cases hs
       simp only[hx,he,hbx,if_false,Bool.and_eq_true,decide_eq_true_eq,Bool.not_eq_true',Bool.false_eq_true] at hb
       exact⟨hb.1.1.1.1.1,hb.1.1.1.1.2,hb.1.1.1.2,hb.1.1.2,okVB_ok _ hb.1.2,hb.2⟩
    ·cases hs
   ·cases hs
 | bin op cls x y =>
   simp only[opSem] at hs
   split at hs
   ·rename_i p r hbs
    cases hs
    exact binB_ok hbs hb
   ·cases hs
 | field x off n ag =>
   simp only[opSem] at hs
   simp only[preB] at hb
   split at hs
   ·rename_i cs hx
    cases hs
    simp only[hx,Bool.and_eq_true,decide_eq_true_eq,Bool.or_eq_true] at hb
    exact⟨hb.1,fun h=>hb.2.resolve_left (by simp[h])⟩
   ·cases hs
 | iaddr x i esz =>
   simp only[opSem] at hs
   simp only[preB] at hb
   split at hs
   ·rename_i e f xs k n hx hy
    split at hs
    ·cases hs
     simp only[hx,hy,Bool.and_eq_true,decide_eq_true_eq] at hb
     exact hb
    ·cases hs
   ·rename_i g e off len full k n hx hy
    split at hs
    ·cases hs
     simp only[hx,hy,Bool.and_eq_true,decide_eq_true_eq] at hb
     exact hb
    ·cases hs
   ·cases hs
 | iaddrp x i len esz =>
   simp only[opSem] at hs
   simp only[preB] at hb
   split at hs
   ·rename_i cs k n hx hy
    cases hs
    simp only[hy,Bool.and_eq_true,decide_eq_true_eq] at hb
    exact hb
   ·rename_i g e j off k n hx hy
    cases hs
    simp only[hy,Bool.and_eq_true,decide_eq_true_eq] at hb
    exact hb
   ·cases hs
 | sidx x i =>
   simp only[opSem] at hs
   simp only[preB] at hb
   split at hs
   ·rename_i s k n hx hy
    cases hs
    simp only[hx,hy,Bool.and_eq_true,decide_eq_true_eq] at hb
    exact hb
   ·cases hs
 | aidx x i len esz ag =>
   simp only[opSem] at hs
   simp only[preB] at hb
   split at hs
   ·rename_i cs k n hx hy
    cases hs
    simp only[hx,hy,Bool.and_eq_true,decide_eq_true_eq,Bool.or_eq_true] at hb
    exact⟨hb.1.1.1,hb.1.1.2,hb.1.2,fun h=>hb.2.resolve_left (by simp[h])⟩
   ·cases hs
 | slc x esz lo hi mx =>
   simp only[opSem] at hs
   simp only[preB] at hb
   split at hs
   ·rename_i esz' full xs hx
    split at hs
    ·rename_i l h hbd hmx
     cases hs
     simp only[hx,hbd,hmx,Bool.and_eq_true,decide_eq_true_eq,Bool.or_eq_true,List.isEmpty_iff] at hb
     exact⟨hb.1.1.1,hb.1.1.2,hb.1.2,hb.2⟩
    ·rename_i l h m hbd hmx
     cases hs
     simp only[hx,hbd,hmx,Bool.and_eq_true,decide_eq_true_eq,Bool.or_eq_true,List.isEmpty_iff] at hb
     exact⟨hb.1.1.1.1,hb.1.1.1.2,hb.1.1.2,hb.1.2,hb.2⟩
    ·cases hs
   ·rename_i g esz' off len full hx
    split at hs
    ·split at hs
     ·rename_i l h hbd hmx
      cases hs
      simp only[hx,hbd,hmx,Bool.and_eq_true,decide_eq_true_eq] at hb
      exact⟨hb.1.1,hb.1.2,hb.2⟩
     ·rename_i l h m hbd hmx
      cases hs
      simp only[hx,hbd,hmx,Bool.and_eq_true,decide_eq_true_eq] at hb
      exact⟨hb.1.1.1,hb.1.1.2,hb.1.2,hb.2⟩
     ·cases hs
    ·cases hs
   ·cases hs
 | sslc x lo hi =>
   simp only[opSem] at hs
   simp only[preB] at hb
   split at hs
   ·rename_i s hx
    split at hs
    ·rename_i l h hbd
     cases hs
     simp only[hx,hbd,Bool.and_eq_true,decide_eq_true_eq] at hb
     exact⟨hb.1.1,hb.1.2,hb.2⟩
    ·cases hs
   ·cases hs
 | ext x i =>
   simp only[opSem] at hs
   simp only[preB] at hb
   split at hs
   ·rename_i vs hx
    cases hs
    simp only[hx,decide_eq_true_eq] at hb
    exact hb
   ·cases hs
 | app s x esz =>
   simp only[opSem] at hs
   simp only[preB] at hb
   rw[Bool.and_eq_true] at hb
   obtain⟨hb1,hb⟩:=hb
   split at hs
   ·rename_i po xe rd cx hro
    have hpo:=rowsB_ok hro hb1
    simp only[hro] at hb
    split at hs
    ·rename_i esz' full xs hgs
     simp only[hgs] at hb
     split at hs
     ·rename_i hnil
      cases hs
      rw[if_pos hnil] at hb
      simp only[Bool.and_eq_true,decide_eq_true_eq,Bool.or_eq_true,List.isEmpty_iff] at hb
      exact⟨hpo,hb.1.1,hb.1.2,hb.2⟩
     rename_i hnil
     rw[if_neg hnil] at hb
     split at hs
     ·cases hs; exact hpo
     ·rename_i hemp
      split at hs
      ·cases hs
       simp only[Bool.and_eq_true,decide_eq_true_eq,Bool.or_eq_true,List.isEmpty_iff] at hb
       have hb:=hb.resolve_left (by simpa using hemp)
       exact⟨hpo,hb.1.1.1.1,hb.1.1.1.2,hb.1.1.2,hb.1.2,hb.2⟩
      ·cases hs
    ·rename_i g esz' off len full hgs
     split at hs
     ·rename_i e he
      simp only[hgs,he,Bool.and_eq_true,decide_eq_true_eq,Bool.or_eq_true,List.isEmpty_iff] at hb
      split at hs
      ·cases hs
      ·split at hs
       ·split at hs
        ·rename_i hf
         cases hs
         simp only[Bool.and_eq_true,Bool.not_eq_true',List.isEmpty_eq_false_iff] at hf
         exact⟨hpo,hb.1.1.resolve_left hf.2,hb.1.2,hb.2⟩
        ·cases hs
       ·cases hs
        exact⟨hpo,hb.1.1,hb.1.2,hb.2⟩
     ·cases hs
    ·cases hs
   ·cases hs
 | appz s n esz z =>
   simp only[opSem] at hs
   simp only[preB] at hb
   split at hs
   ·rename_i e k m h1 h2
    cases hs
    simp only[h2,Bool.and_eq_true,decide_eq_true_eq] at hb
    exact⟨hb.1.1.1,hb.1.1.2,hb.1.2,hb.2⟩
   ·cases hs
 | s2b x =>
   simp only[opSem] at hs
   split at hs
   ·cases hs; trivial
   ·cases hs
 | b2s x =>
   simp only[opSem] at hs
   simp only[preB,Bool.and_eq_true] at hb
   obtain⟨hb1,hb⟩:=hb
   split at hs
   ·cases hs
   ·split at hs
    ·rename_i po xe rd cx hro
     split at hs
     ·cases hs
      simp only[hro,decide_eq_true_eq] at hb
      exact⟨rowsB_ok hro hb1,hb⟩
     ·cases hs
    ·cases hs
 | mksl esz z l c =>
   simp only[opSem] at hs
   simp only[preB] at hb
   split at hs
   ·rename_i k1 n k2 m h1 h2
    cases hs
    simp only[h1,h2,Bool.and_eq_true,decide_eq_true_eq] at hb
    exact⟨hb.1.1.1.1,hb.1.1.1.2,hb.1.1.2,hb.1.2,hb.2⟩
   ·cases hs
 | mv x=>simp only[opSem,Option.some.injEq] at hs; subst hs; trivial
 | alloc z=>simp only[opSem,Option.some.injEq] at hs; subst hs; trivial
 | mkfn f a b=>simp only[opSem,Option.some.injEq] at hs; subst hs; trivial
 | mkif t x=>simp only[opSem,Option.some.injEq] at hs; subst hs; trivial
 | nilck x=>simp only[opSem] at hs; split at hs<;>first|(cases hs; done)|(simp only[Option.some.injEq] at hs; subst hs; trivial)
 | un op x=>simp only[opSem] at hs; split at hs<;>first|(cases hs; done)|(simp only[Option.some.injEq] at hs; subst hs; trivial)
 | conv k x=>simp only[opSem] at hs; split at hs<;>first|(cases hs; done)|(simp only[Option.some.injEq] at hs; subst hs; trivial)
 | faddr a n=>simp only[opSem] at hs; split at hs<;>first|(cases hs; done)|(simp only[Option.some.injEq] at hs; subst hs; trivial)
 | len x=>simp only[opSem] at hs; split at hs<;>first|(cases hs; done)|(simp only[Option.some.injEq] at hs; subst hs; trivial)
 | slen x=>simp only[opSem] at hs; split at hs<;>first|(cases hs; done)|(simp only[Option.some.injEq] at hs; subst hs; trivial)
 | cap x=>simp only[opSem] at hs; split at hs<;>first|(cases hs; done)|(simp only[Option.some.injEq] at hs; subst hs; trivial)
 | minmax b x y =>
   simp only[opSem] at hs
   split at hs
   ·split at hs
    ·cases hs; trivial
    ·cases hs
   ·cases hs
 | call _ _=>simp[opSem] at hs
 | dcall _ _=>simp[opSem] at hs
 | nilcmp _ _=>simp[opSem] at hs
 | bad=>simp[opSem] at hs
 | mmk _=>simp[opSem] at hs
 | mset _ _ _ _=>simp[opSem] at hs
 | look m k=>simp only[opSem] at hs; split at hs<;>first|(cases hs; done)|(simp only[Option.some.injEq] at hs; subst hs; trivial)
 | clr x esz =>
   simp only[opSem] at hs
   simp only[preB] at hb
   split at hs
   ·cases hs; trivial
   ·rename_i g esz' off len full hgs
    simp only[hgs] at hb
    split at hs
    ·rename_i e he
     simp only[he,decide_eq_true_eq] at hb
     split at hs
     ·cases hs
     ·cases hs; exact hb
    ·cases hs
   ·cases hs
end Go.Proofs.YtbdogkmdanmojaaGreatDoor.Pv
namespace Go.Proofs.YtbdogkmdanmojaaGreatDoor.Pv
open Go Go.RowKit
inductive Res where
 | val (r:PV)
 | own (esz:Nat) (xs:List (List PV))
def evPlain (key:Key) (get:MO→PV) (hl:Key→Option HE) (i:MI):Option Out :=
 match i with
 | .nilcmp ne x=>match get x with
   | .vec _ _ (_::_)=>some ⟨True,[],.bool (false != ne),[]⟩
   | .own _ _ _ (_+1) _=>some ⟨True,[],.bool (false != ne),[]⟩
   | _=>none
 | i=>match opSem key get hl i with
   | some o=>if preB get hl i then some o else none
   | none=>none
theorem doOp_sem {P:Program} {key:Key} {get:MO→PV} {hl:Key→Option HE} {i:MI} {o:Out} {K:Out→Prop} (h:opSem key get hl i=some o) (hK:K o):doOp P key get hl i K:=by
 unfold doOp
 split
 ·simp[opSem] at h
 ·simp[opSem] at h
 ·simp[opSem] at h
 ·simp only[h]; exact hK
theorem evPlain_ok {P:Program} {key:Key} {get:MO→PV} {hl:Key→Option HE} {i:MI} {o:Out} (h:evPlain key get hl i=some o):doOp P key get hl i fun o'=>o'.pre∧o'=o:=by
 unfold evPlain at h
 split at h
 ·rename_i ne x
  split at h
  ·rename_i e f y ys hx
   cases h
   simp only[doOp,hx]
   intro b hb
   cases b with
   | true=>exact absurd (hb rfl) (by simp)
   | false=>exact⟨trivial,rfl⟩
  ·rename_i g e off n f hx
   cases h
   simp only[doOp,hx]
   intro b hb
   cases b with
   | true=>exact absurd (hb rfl) (by simp)
   | false=>exact⟨trivial,rfl⟩
  ·cases h
 ·split at h
  ·rename_i o' ho
   split at h
   ·rename_i hp
    cases h
    exact doOp_sem ho ⟨preB_ok ho hp,rfl⟩
   ·cases h
  ·cases h
def BIG:Nat:=1000000000000000
def gOf (st:St) (m:MOp):Option Bool:=match m.g with
 | none=>some true
 | some (t,want)=>guardC (lk t st.s) want
def evOp (N:Nat) (m:MOp) (st:St):Option Out:=match m.g with
 | none=>evPlain (m.dst.getD 0,N) st.get (fun k=>hk k st.h) m.i
 | some (t,want)=>match guardC (lk t st.s) want with
   | none=>none
   | some gb =>
     if m.soft then
      (match opSem (m.dst.getD 0,N) (softGet m.i st.get) (fun k=>hk k st.h) m.i with
      | some o=>if (!gb||preB (softGet m.i st.get) (fun k=>hk k st.h) m.i)&&(m.i.isPick||optsOkB gb st.get m.i.ops)&&o.hu.isEmpty then some ⟨True,o.rd,.opt gb o.r,[]⟩ else none
      | none=>none)
     else if gb then evPlain (m.dst.getD 0,N) st.get (fun k=>hk k st.h) m.i else some ⟨True,[],skipV,[]⟩
theorem evOp_ok {P:Program} {N:Nat} {m:MOp} {st:St} {o:Out} (h:evOp N m st=some o):StepTo P m N st o:=by
 have plain:evPlain (m.dst.getD 0,N) st.get (fun k=>hk k st.h) m.i=some o→doOp P (m.dst.getD 0,N) st.get (fun k=>hk k st.h) m.i fun o'=>o'.pre∧o'=o∧st.put m.dst o'=st.put m.dst o:=fun h =>
  doOp_mono (fun o' ho=>⟨ho.1,ho.2,by rw[ho.2]⟩) (evPlain_ok (P:=P) h)
 unfold evOp at h
 unfold StepTo stepOp
 cases hg:m.g with
 | none =>
   rw[hg] at h
   exact plain h
 | some tw =>
   obtain⟨t,want⟩:=tw
   rw[hg] at h
   simp only at h ⊢
   cases hgb:guardC (lk t st.s) want with
   | none=>rw[hgb] at h; cases h
   | some gb =>
     rw[hgb] at h
     simp only at h ⊢
     by_cases hs:m.soft=true
     ·rw[if_pos hs] at h ⊢
      split at h
      ·rename_i o' ho
       split at h
       ·rename_i hc
        cases h
        simp only[Bool.and_eq_true,Bool.or_eq_true,Bool.not_eq_true',List.isEmpty_iff] at hc
        obtain⟨⟨h1,h2⟩,h3⟩:=hc
        exact doOp_sem ho ⟨fun e=>preB_ok ho (h1.resolve_left (by simp[e])),(by
         unfold softOk
         split
         ·trivial
         ·rename_i hnp
          exact optsOkB_ok _ (h2.resolve_left hnp)),h3,rfl,rfl⟩
       ·cases h
      ·cases h
     ·rw[if_neg hs] at h ⊢
      cases gb with
      | true=>exact⟨fun _=>plain h,fun e=>by cases e⟩
      | false =>
        cases h
        exact⟨fun e=>(by cases e),fun _=>⟨rfl,skip_put _ _⟩⟩
def callee (st:St):MI→Option (FuncId × List PV)
 | .call f args=>some (f,args.map st.get)
 | .dcall f args=>match st.get f with
   | .fn fid first caps=>some (fid,first++args.map st.get++caps)
   | _=>none
 | _=>none
def MI.isCall:MI→Bool
 | .call _ _|.dcall _ _=>true
 | _=>false
def CpOk (P:Program) (cp:FuncId→List PV→Option Res):Prop :=
 ∀ f args,(∀ r,cp f args=some (.val r)→Ret P f args r)∧∀ esz xs,cp f args=some (.own esz xs)→RetO P f args esz xs
def evCallOut (cp:FuncId→List PV→Option Res) (key:Key) (hl:Key→Option HE) (f:FuncId) (args:List PV):Option Out :=
 if okLB hl args then
  (match cp f (reifyL hl args) with
  | some (.val r)=>some (callOut hl args r)
  | some (.own esz xs)=>some (callOutO hl args key esz xs)
  | none=>none)
 else none
theorem evCallOut_ok {P:Program} {cp:FuncId→List PV→Option Res} (hcp:CpOk P cp) {key:Key} {hl:Key→Option HE} {f:FuncId} {args:List PV} {o:Out} (h:evCallOut cp key hl f args=some o):doCall P key hl f args fun o'=>o'.pre∧o'=o:=by
 unfold evCallOut at h
 split at h
 ·rename_i hok
  split at h
  ·rename_i r hr
   cases h
   exact .inl ⟨r,(hcp _ _).1 r hr,okLB_ok _ hok,rfl⟩
  ·rename_i esz xs hr
   cases h
   exact .inr ⟨esz,xs,(hcp _ _).2 esz xs hr,okLB_ok _ hok,rfl⟩
  ·cases h
 ·cases h
def evCallP (cp:FuncId→List PV→Option Res) (N:Nat) (m:MOp) (st:St):Option Out :=
 if m.soft then none else
 match gOf st m with
 | some true=>(match callee st m.i with
   | some (f,args)=>evCallOut cp (m.dst.getD 0,N) (fun k=>hk k st.h) f args
   | none=>none)
 | some false=>some ⟨True,[],skipV,[]⟩
 | none=>none
theorem doCall_mono {P:Program} {key:Key} {hl:Key→Option HE} {f:FuncId} {args:List PV} {K K' : Out→Prop} (h:∀ o,K o→K' o) (hd:doCall P key hl f args K):doCall P key hl f args K':=by
 rcases hd with ⟨r,h1,h2⟩|⟨e,xs,h1,h2⟩
 ·exact .inl ⟨r,h1,h _ h2⟩
 ·exact .inr ⟨e,xs,h1,h _ h2⟩
theorem evCallP_ok {P:Program} {cp:FuncId→List PV→Option Res} (hcp:CpOk P cp) {N:Nat} {m:MOp} {st:St} {o:Out} (hc:m.i.isCall=true) (h:evCallP cp N m st=some o):StepTo P m N st o:=by
 unfold evCallP at h
 split at h
 ·cases h
 rename_i hsoft
 have hd:∀ f args,callee st m.i=some (f,args)→doCall P (m.dst.getD 0,N) (fun k=>hk k st.h) f args (fun o'=>o'.pre∧o'=o)→doOp P (m.dst.getD 0,N) st.get (fun k=>hk k st.h) m.i fun o'=>o'.pre∧o'=o∧st.put m.dst o'=st.put m.dst o:=fun f args hcl hd=>by
  have hd':=doCall_mono (K':=fun o'=>o'.pre∧o'=o∧st.put m.dst o'=st.put m.dst o) (fun o' ho=>by obtain⟨h1,rfl⟩:=ho; exact⟨h1,rfl,rfl⟩) hd
  unfold callee at hcl
  unfold doOp
  split at hcl
  ·cases hcl; rename_i heq; simp only[heq]; exact hd'
  ·rename_i heq
   split at hcl
   ·rename_i hf
    cases hcl
    simp only[heq,hf]; exact hd'
   ·cases hcl
  ·cases hcl
 split at h
 ·rename_i hg
  split at h
  ·rename_i f args hcl
   have hdo:=hd f args hcl (evCallOut_ok hcp h)
   unfold StepTo stepOp
   unfold gOf at hg
   split at hg
   ·rename_i hmg
    simp only[hmg]; exact hdo
   ·rename_i t want hmg
    simp only[hmg,hg,if_neg hsoft]
    exact⟨fun _=>hdo,fun e=>by cases e⟩
  ·cases h
 ·rename_i hg
  cases h
  unfold StepTo stepOp
  unfold gOf at hg
  split at hg
  ·cases hg
  ·rename_i t want hmg
   simp only[hmg,hg,if_neg hsoft]
   exact⟨fun e=>absurd e (by simp),fun _=>⟨trivial,skip_put _ _⟩⟩
 ·cases h
def evStep (cp:FuncId→List PV→Option Res) (N:Nat) (m:MOp) (st:St):Option Out:=if m.i.isCall then evCallP cp N m st else evOp N m st
theorem evStep_ok {P:Program} {cp:FuncId→List PV→Option Res} (hcp:CpOk P cp) {N:Nat} {m:MOp} {st:St} {o:Out} (h:evStep cp N m st=some o):StepTo P m N st o:=by
 unfold evStep at h
 split at h
 ·rename_i hc; exact evCallP_ok hcp hc h
 ·exact evOp_ok h
theorem stepOp_mono {P:Program} {m:MOp} {v:Nat} {st:St} {K K' : Out→St→Prop} (h:∀ o s,K o s→K' o s) (hs:stepOp P m v st K):stepOp P m v st K':=by
 unfold stepOp at hs ⊢
 split at hs
 ·exact doOp_mono (fun o ho=>⟨ho.1,h _ _ ho.2⟩) hs
 ·split at hs
  ·exact hs.elim
  ·split at hs
   ·rename_i hsoft
    rw[if_pos hsoft]
    exact doOp_mono (fun o ho=>⟨ho.1,ho.2.1,ho.2.2.1,h _ _ ho.2.2.2⟩) hs
   ·rename_i hsoft
    rw[if_neg hsoft]
    exact⟨fun e=>doOp_mono (fun o ho=>⟨ho.1,h _ _ ho.2⟩) (hs.1 e),fun e=>h _ _ (hs.2 e)⟩
def evD (cp:FuncId→List PV→Option Res) (un:List (Nat × Nat)) (N:Nat):List MOp→List (List Nat × List Nat)→St→Option St
 | [],acc,st=>if okPairs un acc then some st else none
 | m::ms,acc,st=>if m.i.isNil then none else match evStep cp N m st with
   | some o=>evD cp un N ms (acc++[(o.rd,tagsHu o.hu)]) (st.put m.dst o)
   | none=>none
theorem evD_ok {P:Program} {cp:FuncId→List PV→Option Res} (hcp:CpOk P cp) {un:List (Nat × Nat)} {N:Nat}:∀ (ms:List MOp) (acc:List (List Nat × List Nat)) (st st' : St),evD cp un N ms acc st=some st'→runD P un N ms acc st fun s=>s=st'
 | [],acc,st,st',h=>by
   simp only[evD] at h
   split at h
   ·rename_i hp
    cases h
    exact⟨hp,rfl⟩
   ·cases h
 | m::ms,acc,st,st',h=>by
   simp only[evD] at h
   split at h
   ·cases h
   ·rename_i hn
    split at h
    ·rename_i o ho
     refine⟨?_,stepOp_mono (fun o' s hs=>?_) (evStep_ok hcp ho)⟩
     ·cases hm:m.i<;>first|trivial|(rw[hm] at hn; exact hn rfl)
     ·obtain⟨rfl,rfl⟩:=hs
      exact evD_ok hcp ms _ _ _ h
    ·cases h
def Bnd (c:Ctx) (N:Nat):Prop:=∀ k:Key,c.U k→k.2<N∨BIG≤k.2
def CiOk (P:Program) (ci:FuncId→List PV→List (Key × Option HE)→Nat→Option (PV × List (Key × Option HE) × Nat)):Prop :=
 ∀ f args h N r h' N',ci f args h N=some (r,h',N')→callable P f=true∧∀ (E:Env) (a:Act) (c:Ctx) (w:World) (vs:List Value) (d:Option Nat) (s:List (Nat × PV)),E.P=P→Good E ⟨s,h⟩ c a w→Bnd c N→RepL w c args vs →
   Calls P f vs.toArray w fun e w'=>∃ v,e=.returned v∧∃ c',Good E ⟨putS d r s,h'⟩ c' (a.put d v) w'∧Bnd c' N'
def inlM (mode:FuncId→Bool) (st:St) (i:MI):Bool:=match callee st i with
 | some (f,_)=>mode f
 | none=>false
def evCallI (ci:FuncId→List PV→List (Key × Option HE)→Nat→Option (PV × List (Key × Option HE) × Nat)) (N:Nat) (m:MOp) (st:St):Option (St × Nat) :=
 match gOf st m with
 | some true=>(match callee st m.i with
   | some (f,args)=>(match ci f args st.h N with
     | some (r,h',N')=>some (⟨putS m.dst r st.s,h'⟩,N')
     | none=>none)
   | none=>none)
 | some false=>some (st.skip m.dst,N)
 | none=>none
def evOne (mode:FuncId→Bool) (cp:FuncId→List PV→Option Res) (ci:FuncId→List PV→List (Key × Option HE)→Nat→Option (PV × List (Key × Option HE) × Nat)) (N:Nat) (m:MOp) (st:St):Option (St × Nat) :=
 if inlM mode st m.i then evCallI ci N m st else if Nat.blt N BIG then (match evStep cp N m st with|some o=>some (st.put m.dst o,N+1)|none=>none) else none
def evRun (mode:FuncId→Bool) (cp:FuncId→List PV→Option Res) (ci:FuncId→List PV→List (Key × Option HE)→Nat→Option (PV × List (Key × Option HE) × Nat)):List MOp→St→Nat→Option (St × Nat)
 | [],st,N=>some (st,N)
 | m::ms,st,N=>match evOne mode cp ci N m st with
   | some (st',N')=>evRun mode cp ci ms st' N'
   | none=>none
section
variable {E:Env} {st:St} {c:Ctx} {a:Act} {w:World}
theorem callee_runs (hg:Good E st c a w) {ops:Array Oper} {soft:Bool} {o:Oper} {m:MOp} (hm:toOp E.P E.nt ops soft o=some m) {f:FuncId} {args:List PV} (hc:callee st m.i=some (f,args)) (hcb:callable E.P f=true) {R:Value→World→Prop}
 (h:∀ vs,RepL w c args vs→Calls E.P f vs.toArray w fun e w'=>∃ v,e=.returned v∧R v w'):Runs E.P a.eval o w R:=by
 obtain⟨hi,hdst,hgd⟩:=toOp_spec hm
 unfold callee at hc
 split at hc
 ·rename_i f' args' hmi
  cases hc
  rw[hmi] at hi
  obtain⟨cl,ho,hcl,hc,hargs⟩:=toI_call (hi.resolve_right (by simp))
  refine .inr ⟨f,_,?_,h (cl.args.toList.map a.eval) (toOs_RepL _ _ _ hargs (fun t x m h _=>hg.get h))⟩
  rw[run_call ho hcl (a:=#[]) (b:=#[]) rfl hcb]
  congr 2
  apply Array.ext'
  simp
 ·rename_i f' args' hmi
  split at hc
  ·rename_i fid first caps hf
   cases hc
   rw[hmi] at hi
   obtain⟨cl,t,ho,hcl,ht,rfl,hargs⟩:=toI_dcall (hi.resolve_right (by simp))
   have hft:=hg.get (t:=0) (x:=.tmp t) (m:=.t t) (by simp[toO,ht])
   rw[hf] at hft
   obtain⟨x,y,e1,r1,r2⟩:=hft
   refine .inr ⟨f,_,?_,h (x.toList++cl.args.toList.map a.eval++y.toList) (RepL.append (RepL.append r1 (toOs_RepL _ _ _ hargs (fun t x m h _=>hg.get h))) r2)⟩
   rw[run_call ho hcl (a:=x) (b:=y) e1 hcb]
   congr 2
   apply Array.ext'
   simp
  ·cases hc
 ·cases hc
theorem gOf_wanted (hg:Good E st c a w) {ops:Array Oper} {soft:Bool} {o:Oper} {m:MOp} (hm:toOp E.P E.nt ops soft o=some m) {gb:Bool} (h:gOf st m=some gb):Region.wanted o (yielded ops a.tmps)=gb:=by
 obtain⟨hi,hdst,hgd⟩:=toOp_spec hm
 unfold gOf at h
 rcases hgd with ⟨hg1,hg2⟩|⟨j,want,t,hg1,hg2,hlt,hg3⟩
 ·rw[hg2] at h
  cases h
  simp[Region.wanted,hg1]
 ·rw[hg3] at h
  exact guard_wanted hg hg1 hg2 hlt h
theorem evRun_ok {cp:FuncId→List PV→Option Res} (hcp:CpOk E.P cp) {ci:FuncId→List PV→List (Key × Option HE)→Nat→Option (PV × List (Key × Option HE) × Nat)} (hci:CiOk E.P ci) {mode:FuncId→Bool} {ops:Array Oper} {soft:Bool} {Q:Exit→Act→World→Prop} {stF:St} {NF:Nat}
 (hQ:∀ c a w,Good E stF c a w→Bnd c NF→Q .normal a w):∀ (l:List Oper) (ms:List MOp) (st:St) (N:Nat) (c:Ctx) (a:Act) (w:World),toOps E.P E.nt ops soft l=some ms→evRun mode cp ci ms st N=some (stF,NF)→Good E st c a w→Bnd c N→wpList E.P ops Q l a w
 | [],ms,st,N,c,a,w,h,he,hg,hb=>by
   simp only[toOps,Option.some.injEq] at h
   subst h
   simp only[evRun,Option.some.injEq,Prod.mk.injEq] at he
   obtain⟨rfl,rfl⟩:=he
   exact hQ c a w hg hb
 | o::l,ms,st,N,c,a,w,h,he,hg,hb=>by
   simp only[toOps] at h
   split at h
   ·rename_i m ms' h1 h2
    cases h
    simp only[evRun] at he
    split at he
    ·rename_i st' N' hone
     unfold wpList
     have hdst:=(toOp_spec h1).2.1
     unfold evOne at hone
     split at hone
     ·
       unfold evCallI at hone
       split at hone
       ·rename_i hgo
        split at hone
        ·rename_i f args hcl
         split at hone
         ·rename_i r h' N'' hcall
          cases hone
          obtain⟨hcb,hcc⟩:=hci _ _ _ _ _ _ _ hcall
          rw[if_pos (gOf_wanted hg h1 hgo)]
          refine .inl (Runs.wp (callee_runs hg h1 hcl hcb fun vs hr=>Calls.mono (hcc E a c w vs m.dst st.s rfl hg hb hr) ?_))
          rintro e w' ⟨v,hev,c',hg',hb'⟩
          exact⟨v,hev,evRun_ok hcp hci hQ l ms' _ _ c' _ w' h2 he (by rw[← hdst]; exact hg') hb'⟩
         ·cases hone
        ·cases hone
       ·rename_i hgo
        cases hone
        rw[if_neg (by rw[gOf_wanted hg h1 hgo]; simp)]
        exact evRun_ok hcp hci hQ l ms' _ _ c _ w h2 he (hg.put (d:=o.dst) (r:=skipV) (by rw[← hdst]; rfl) (by simpa[St.skip] using hg.hgood) ⟨fun h=>(by cases h),fun _=>rfl⟩ (Ctx.Le.refl c) (Mono.refl _ _)) hb
       ·cases hone
     ·split at hone
      ·rename_i hlt
       split at hone
       ·rename_i o' ho'
        cases hone
        have hN:N<BIG:=by simpa[Nat.blt_eq] using hlt
        have hkey:¬ c.U (m.dst.getD 0,N):=fun hu=>by
         rcases hb _ hu with h|h
         ·exact Nat.lt_irrefl _ h
         ·simp only at h; omega
        have hb' : ∀ c' : Ctx,(∀ k:Key,c'.U k→c.U k∨k=(m.dst.getD 0,N))→Bnd c' (N+1):=fun c' hc' k hk=>by
         rcases hc' k hk with h|rfl
         ·exact (hb k h).imp (fun h=>by omega) (fun h=>h)
         ·exact .inl (Nat.lt_succ_self _)
        obtain⟨s1,s2⟩:=step_sound hg h1 hkey (evStep_ok hcp ho')
        split
        ·rename_i hw
         refine .inl (Runs.wp ((s1 hw).mono ?_))
         rintro u w' ⟨_,st'',c',⟨rfl,rfl⟩,hg',hU⟩
         exact evRun_ok hcp hci hQ l ms' _ _ c' _ w' h2 he hg' (hb' c' hU)
        ·rename_i hw
         obtain⟨_,st'',c',⟨rfl,rfl⟩,hg',hU⟩:=s2 (by simpa using hw)
         exact evRun_ok hcp hci hQ l ms' _ _ c' _ w h2 he hg' (hb' c' hU)
       ·cases hone
      ·cases hone
    ·cases he
   ·cases h
end
end Go.Proofs.YtbdogkmdanmojaaGreatDoor.Pv
namespace Go.Proofs.YtbdogkmdanmojaaGreatDoor.Pv
open Go Go.RowKit
def resOkB (st:St):List RV→Bool
 | []=>true
 | .tmp _::rs=>resOkB st rs
 | .cell a _ n ag::rs=>(match lk a st.s with
   | .ptr g _ i off=>match hk g st.h with
     | some e=>decide (i<e.xs.length)&&decide (off+n≤(e.xs.getD i []).length)&&(ag||decide (n=1))
     | none=>false
   | _=>false)&&resOkB st rs
theorem resOkB_ok {st:St}:∀ rs,resOkB st rs=true→resOk st rs
 | [],_=>trivial
 | .tmp _::rs,h=>resOkB_ok rs h
 | .cell a t n ag::rs,h=>by
   simp only[resOkB,Bool.and_eq_true] at h
   refine⟨?_,resOkB_ok rs h.2⟩
   have h1:=h.1
   split at h1
   ·rename_i g esz i off hx
    split at h1
    ·rename_i e he
     simp only[Bool.and_eq_true,decide_eq_true_eq,Bool.or_eq_true] at h1
     simp only[hx,he]
     exact⟨h1.1.1,h1.1.2,fun h=>h1.2.resolve_left (by simp[h])⟩
    ·cases h1
   ·cases h1
def finV (hl:Key→Option HE) (r:PV):Option Res:=if okVB hl r then some (.val (reify hl r)) else none
def finP (hl:Key→Option HE) (r:PV):Option Res:=match r with
 | .own g esz off len _=>(match hl g with
   | some e=>if !e.fz&&!e.bx&&decide (off+len≤e.xs.length) then some (.own esz ((e.xs.drop off).take len)) else finV hl r
   | none=>none)
 | r=>finV hl r
def exEnd:Ex→Bool
 | .normal|.ret=>true
 | _=>false
abbrev Tab:=FuncId→Option (MC × Nat × List RV)
abbrev Evn:=MC→St→Nat→Option (Ex × St × Nat)
abbrev Ext:=FuncId→List PV→Option Res
def cpIn (T:Tab) (evn:Evn) (f:FuncId) (args:List PV):Option Res:=match T f with
 | some (m,nt,rs)=>if Nat.ble args.length nt then (match evn m (St.init args) 0 with
   | some (ex,st,_)=>if exEnd ex&&resOkB st rs then finP (fun k=>hk k st.h) (resAll st rs) else none
   | none=>none) else none
 | none=>none
def cpOf (X:Ext) (T:Tab) (evn:Evn) (f:FuncId) (args:List PV):Option Res:=match X f args with
 | some r=>some r
 | none=>cpIn T evn f args
def ciOf (T:Tab) (evn:Evn) (f:FuncId) (args:List PV) (h:List (Key × Option HE)) (N:Nat):Option (PV × List (Key × Option HE) × Nat):=match T f with
 | some (m,nt,rs)=>if Nat.ble args.length nt then (match evn m ⟨(St.init args).s,h⟩ N with
   | some (ex,st,N')=>if exEnd ex&&resOkB st rs then some (resAll st rs,st.h,N') else none
   | none=>none) else none
 | none=>none
def ev (X:Ext) (T:Tab) (mode:FuncId→Bool):Nat→MC→St→Nat→Option (Ex × St × Nat)
 | 0,_,_,_=>none
 | n+1,m,st,N=>match m with
   | .skip=>some (.normal,st,N)
   | .reg ms=>(match evRun mode (cpOf X T (ev X T mode n)) (ciOf T (ev X T mode n)) ms st N with
     | some (st',N')=>some (.normal,st',N')
     | none=>none)
   | .draw un ms=>if Nat.blt N BIG then (match evD (cpOf X T (ev X T mode n)) un N ms [] st with
     | some st'=>some (.normal,st',N+1)
     | none=>none) else none
   | .seq x y=>(match ev X T mode n x st N with
     | some (.normal,st',N')=>ev X T mode n y st' N'
     | r=>r)
   | .cond c x y=>(match st.get c with
     | .bool true=>ev X T mode n x st N
     | .bool false=>ev X T mode n y st N
     | _=>none)
   | .block id x=>(match ev X T mode n x st N with
     | some (.exit j,st',N')=>if j=id then some (.normal,st',N') else some (.exit j,st',N')
     | r=>r)
   | .loop x=>(match ev X T mode n x st N with
     | some (.normal,st',N')=>ev X T mode n (.loop x) st' N'
     | r=>r)
   | .exit id=>some (.exit id,st,N)
   | .ret=>some (.ret,st,N)
   | .label _=>some (.normal,st,N)
   | .goto l=>some (.goto l,st,N)
   | .scope x=>(match ev X T mode n x st N with
     | some (.goto _,_,_)=>none
     | r=>r)
   | .bad=>none
   | .cut _=>none
def EvOk (P:Program) (evn:Evn):Prop :=
 ∀ (E:Env) (c:Code) (m:MC) (st:St) (N:Nat) (ex:Ex) (st' : St) (N' : Nat) (c0:Ctx) (a:Act) (w:World),E.P=P→toMC E.P E.nt c=some m→evn m st N=some (ex,st',N')→Good E st c0 a w→Bnd c0 N →
   c.wp E.P (fun e a' w'=>e=Ex.to ex∧∃ c',Good E st' c' a' w'∧Bnd c' N') a w
theorem finP_ok {P:Program} {f nt:Nat} {m:MC} {rs:List RV} {args:List PV} {evn:Evn} (hev:EvOk P evn) (hm:mfOf P f=some (m,nt,rs)) (hn:args.length≤nt) {ex:Ex} {st:St} {N:Nat} (he:evn m (St.init args) 0=some (ex,st,N)) (hex:exEnd ex=true) (hr:resOkB st rs=true) :
 (∀ r,finP (fun k=>hk k st.h) (resAll st rs)=some (.val r)→Ret P f args r)∧∀ esz xs,finP (fun k=>hk k st.h) (resAll st rs)=some (.own esz xs)→RetO P f args esz xs:=by
 have hro:=resOkB_ok rs hr
 have run:∀ (Q:Ex→St→Prop),(∀ e,exEnd e=true→Q e st)→∀ c,toMC P nt c=some m→∀ w0 F0 (hG:GOk P w0 F0) a,Good ⟨P,w0,F0,nt,[],0,hG⟩ (St.init args) (dctx F0) a w0→c.wp P (endQ ⟨P,w0,F0,nt,[],0,hG⟩ Q) a w0:=fun Q hQ c hc w0 F0 hG a hg=>by
  refine wp_mono (hev ⟨P,w0,F0,nt,[],0,hG⟩ c m _ 0 ex st N (dctx F0) a w0 rfl hc he hg (fun k hk=>hk.elim)) ?_
  rintro e a' w' ⟨rfl,c',hg',_⟩
  exact⟨ex,st,rfl,hQ ex hex,c',hg'⟩
 have val:∀ r,finV (fun k=>hk k st.h) (resAll st rs)=some (.val r)→Ret P f args r:=fun r hf=>by
  unfold finV at hf
  split at hf
  ·rename_i hok
   cases hf
   refine Ret.of_wp hm hn (run _ (fun e he=>?_))
   cases e<;>first|exact⟨hro,okVB_ok _ hok,rfl⟩|(simp[exEnd] at he)
  ·cases hf
 have noown:∀ esz xs,finV (fun k=>hk k st.h) (resAll st rs)=some (.own esz xs)→False:=fun esz xs hf=>by
  unfold finV at hf
  split at hf<;>cases hf
 refine⟨fun r hf=>?_,fun esz xs hf=>?_⟩
 ·unfold finP at hf
  split at hf
  ·split at hf
   ·split at hf
    ·cases hf
    ·exact val r hf
   ·cases hf
  ·exact val r hf
 ·unfold finP at hf
  split at hf
  ·rename_i g esz' off len full hx
   split at hf
   ·rename_i e he'
    split at hf
    ·rename_i hc
     cases hf
     simp only[Bool.and_eq_true,Bool.not_eq_true',decide_eq_true_eq] at hc
     have this:ownIs (fun k=>hk k st.h) esz ((e.xs.drop off).take len) (resAll st rs):=by
      rw[hx]
      refine⟨rfl,?_⟩
      simp only at he'
      simp only[he']
      exact⟨hc.1.1,hc.1.2,hc.2,trivial⟩
     refine RetO.of_wp hm hn (run _ (fun e1 he1=>?_))
     cases e1<;>first|exact⟨hro,this⟩|(simp[exEnd] at he1)
    ·exact (noown _ _ hf).elim
   ·cases hf
  ·exact (noown _ _ hf).elim
theorem cpIn_ok {P:Program} {T:Tab} (hT:∀ f m nt rs,T f=some (m,nt,rs)→mfOf P f=some (m,nt,rs)) {evn:Evn} (hev:EvOk P evn):CpOk P (cpIn T evn):=fun f args=>by
 have key:∀ res,cpIn T evn f args=some res→(∀ r,res=.val r→Ret P f args r)∧∀ esz xs,res=.own esz xs→RetO P f args esz xs:=fun res h=>by
  unfold cpIn at h
  split at h
  ·rename_i m nt rs ht
   split at h
   ·rename_i hle
    split at h
    ·rename_i ex st N he
     split at h
     ·rename_i hc
      simp only[Bool.and_eq_true] at hc
      obtain⟨k1,k2⟩:=finP_ok hev (hT _ _ _ _ ht) (Nat.le_of_ble_eq_true hle) he hc.1 hc.2
      exact⟨fun r hr=>k1 r (by rw[← hr]; exact h),fun esz xs hr=>k2 esz xs (by rw[← hr]; exact h)⟩
     ·cases h
    ·cases h
   ·cases h
  ·cases h
 exact⟨fun r h=>(key _ h).1 r rfl,fun esz xs h=>(key _ h).2 esz xs rfl⟩
theorem cpOf_ok {P:Program} {X:Ext} (hX:CpOk P X) {T:Tab} (hT:∀ f m nt rs,T f=some (m,nt,rs)→mfOf P f=some (m,nt,rs)) {evn:Evn} (hev:EvOk P evn):CpOk P (cpOf X T evn):=fun f args=>by
 have h1:=hX f args
 have h2:=cpIn_ok hT hev f args
 unfold cpOf
 cases hx:X f args with
 | some r=>rw[hx] at h1; exact h1
 | none=>exact h2
theorem ciOf_ok {P:Program} {T:Tab} (hT:∀ f m nt rs,T f=some (m,nt,rs)→mfOf P f=some (m,nt,rs)) {evn:Evn} (hev:EvOk P evn):CiOk P (ciOf T evn):=fun f args h N r h' N' hc=>by
 unfold ciOf at hc
 split at hc
 ·rename_i m nt rs ht
  split at hc
  ·rename_i hle
   split at hc
   ·rename_i ex st N'' he
    split at hc
    ·rename_i hend
     cases hc
     simp only[Bool.and_eq_true] at hend
     have hro:=resOkB_ok rs hend.2
     obtain⟨fn,c0,hf,hcb,hb,hnt,htm,hrs⟩:=mfOf_spec (hT _ _ _ _ ht)
     subst hnt
     refine⟨hcb,fun E a c w vs d s hP hg hbd hr=>?_⟩
     subst hP
     refine calls_of_wp hf hb ?_
     refine wp_mono (hev ⟨E.P,E.w0,E.F0,fn.ntmps,ghostOf E s a,E.V,E.glob⟩ c0 m _ N ex st N' c _ w rfl htm he (inl_begin hg hr (Nat.le_of_ble_eq_true hle)) hbd) ?_
     rintro e a' w' ⟨rfl,c',hg',hb'⟩
     have key:a'.defers=[]∧∃ v,(results fn a'.tmps).run E.P w'=.ok v w'∧∃ v',Ending.returned v=.returned v'∧∃ c'',Good E ⟨putS d (resAll st rs) s,st.h⟩ c'' (a.put d v') w'∧Bnd c'' N':=by
      obtain⟨v,k1,k2⟩:=resAll_run hg' hrs hro
      exact⟨hg'.defers.trans (dfs_ghost E s a),v,k1,v,rfl,c',inl_end hg hg' k2,hb'⟩
     cases ex with
     | normal=>exact key
     | ret=>exact key
     | exit id=>simp[exEnd] at hend
     | goto l=>simp[exEnd] at hend
    ·cases hc
   ·cases hc
  ·cases hc
 ·cases hc
theorem loop_rounds {P:Program} {X:Ext} {T:Tab} {mode:FuncId→Bool} {E:Env} (hP:E.P=P) {x:Code} {mx:MC} (hx:toMC E.P E.nt x=some mx) {ex:Ex} {st' : St} {N' : Nat}:∀ (n:Nat),(∀ k,k<n→EvOk P (ev X T mode k))→∀ (st:St) (N:Nat) (c0:Ctx) (a:Act) (w:World),
 ev X T mode n (.loop mx) st N=some (ex,st',N')→Good E st c0 a w→Bnd c0 N→Code.rounds E.P x (fun e a' w'=>e=Ex.to ex∧∃ c',Good E st' c' a' w'∧Bnd c' N') n a w
 | 0,_,st,N,c0,a,w,he,_,_=>by simp[ev] at he
 | n+1,hall,st,N,c0,a,w,he,hg,hb=>by
   rw[rounds_succ]
   simp only[ev] at he
   have ih:=hall n (Nat.lt_succ_self n)
   split at he
   ·rename_i st1 N1 hx1
    refine wp_mono (ih E x mx st N _ _ _ c0 a w hP hx hx1 hg hb) ?_
    rintro e a' w' ⟨rfl,c1,hg1,hb1⟩
    exact loop_rounds hP hx n (fun k hk=>hall k (Nat.lt_succ_of_lt hk)) st1 N1 c1 a' w' he hg1 hb1
   ·rename_i r hne
    refine wp_mono (ih E x mx st N _ _ _ c0 a w hP hx he hg hb) ?_
    rintro e a' w' ⟨rfl,hrest⟩
    cases ex with
    | normal=>exact (hne _ _ he).elim
    | exit i=>exact⟨rfl,hrest⟩
    | goto l=>exact⟨rfl,hrest⟩
    | ret=>exact⟨rfl,hrest⟩
theorem ev_ok {P:Program} {X:Ext} (hX:CpOk P X) {T:Tab} (hmix:P.follows .mixedOrders=true) (hT:∀ f m nt rs,T f=some (m,nt,rs)→mfOf P f=some (m,nt,rs)) {mode:FuncId→Bool}:∀ n,EvOk P (ev X T mode n):=by
 intro n
 induction n using Nat.strongRecOn with
 | _ n ihs =>
 cases n with
 | zero=>intro E c m st N ex st' N' c0 a w hP hc he; simp[ev] at he
 | succ n =>
   have ih:=ihs n (Nat.lt_succ_self n)
   intro E c m st N ex st' N' c0 a w hP hc he hg hb
   subst hP
   have hcp:=cpOf_ok hX hT ih
   have hci:=ciOf_ok hT ih
   cases c with
   | skip =>
     simp only[toMC,Option.some.injEq] at hc
     subst hc
     simp only[ev,Option.some.injEq,Prod.mk.injEq] at he
     obtain⟨rfl,rfl,rfl⟩:=he
     exact wp_skip ⟨rfl,c0,hg,hb⟩
   | region id ops d =>
     simp only[toMC] at hc
     split at hc
     ·rename_i ms hops
      cases d with
      | true =>
        simp only[if_true] at hc
        split at hc
        ·rename_i hok
         cases hc
         simp only[ev] at he
         split at he
         ·rename_i hlt
          have hN:N<BIG:=by simpa[Nat.blt_eq] using hlt
          split at he
          ·rename_i st1 hd
           simp only[Option.some.injEq,Prod.mk.injEq] at he
           obtain⟨rfl,rfl,rfl⟩:=he
           refine draw_at hmix hops hok hN (evD_ok hcp _ _ _ _ hd) hg hb (fun s c1 a1 w1 hs hg1 hb1=>?_)
           subst hs
           exact⟨rfl,c1,hg1,fun k hk=>(hb1 k hk).imp Nat.lt_succ_of_le (fun h=>h)⟩
          ·cases he
         ·cases he
        ·cases hc
      | false =>
        simp only[Bool.false_eq_true,if_false,Option.some.injEq] at hc
        subst hc
        simp only[ev] at he
        split at he
        ·rename_i st1 N1 hrun
         simp only[Option.some.injEq,Prod.mk.injEq] at he
         obtain⟨rfl,rfl,rfl⟩:=he
         exact wp_region_list (evRun_ok hcp hci (fun c1 a1 w1 hg1 hb1=>⟨rfl,c1,hg1,hb1⟩) _ _ _ _ _ _ _ hops hrun hg hb)
        ·cases he
     ·cases hc
   | seq x y =>
     simp only[toMC] at hc
     split at hc
     ·rename_i mx my h1 h2
      cases hc
      simp only[ev] at he
      split at he
      ·rename_i st1 N1 hx
       refine wp_seq (wp_mono (ih E x mx st N _ _ _ c0 a w rfl h1 hx hg hb) ?_)
       rintro e a' w' ⟨rfl,c1,hg1,hb1⟩
       exact ih E y my _ _ _ _ _ c1 a' w' rfl h2 he hg1 hb1
      ·rename_i r hne
       refine wp_seq (wp_mono (ih E x mx st N _ _ _ c0 a w rfl h1 he hg hb) ?_)
       rintro e a' w' ⟨rfl,hrest⟩
       cases ex with
       | normal=>exact (hne _ _ he).elim
       | exit i=>exact⟨rfl,hrest⟩
       | goto l=>exact⟨rfl,hrest⟩
       | ret=>exact⟨rfl,hrest⟩
     ·cases hc
   | cond q x y =>
     simp only[toMC] at hc
     split at hc
     ·rename_i mc mx my h0 h1 h2
      cases hc
      have hq:=hg.get h0
      simp only[ev] at he
      split at he
      ·rename_i hb1
       rw[hb1] at hq
       exact wp_cond_true hq (ih E x mx _ _ _ _ _ c0 a w rfl h1 he hg hb)
      ·rename_i hb1
       rw[hb1] at hq
       exact wp_cond_false hq (ih E y my _ _ _ _ _ c0 a w rfl h2 he hg hb)
      ·cases he
     ·cases hc
   | block id x =>
     simp only[toMC,Option.map_eq_some_iff] at hc
     obtain⟨mx,h1,rfl⟩:=hc
     simp only[ev] at he
     split at he
     ·rename_i j st1 N1 hx
      refine wp_block (wp_mono (ih E x mx st N _ _ _ c0 a w rfl h1 hx hg hb) ?_)
      rintro e a' w' ⟨rfl,c1,hg1,hb1⟩
      simp only[Ex.to,Exit.inBlock]
      split at he
      ·rename_i hj
       simp only[Option.some.injEq,Prod.mk.injEq] at he
       obtain⟨rfl,rfl,rfl⟩:=he
       rw[if_pos hj]
       exact⟨rfl,c1,hg1,hb1⟩
      ·rename_i hj
       simp only[Option.some.injEq,Prod.mk.injEq] at he
       obtain⟨rfl,rfl,rfl⟩:=he
       rw[if_neg hj]
       exact⟨rfl,c1,hg1,hb1⟩
     ·rename_i r hne
      refine wp_block (wp_mono (ih E x mx st N _ _ _ c0 a w rfl h1 he hg hb) ?_)
      rintro e a' w' ⟨rfl,hrest⟩
      cases ex with
      | normal=>exact⟨rfl,hrest⟩
      | exit i=>exact (hne _ _ _ he).elim
      | goto l=>exact⟨rfl,hrest⟩
      | ret=>exact⟨rfl,hrest⟩
   | loop x =>
     have hc':=hc
     simp only[toMC,Option.map_eq_some_iff] at hc
     obtain⟨mx,h1,rfl⟩:=hc
     exact wp_loop_rounds _ (loop_rounds rfl h1 (n+1) ihs st N c0 a w he hg hb)
   | exit id =>
     simp only[toMC,Option.some.injEq] at hc
     subst hc
     simp only[ev,Option.some.injEq,Prod.mk.injEq] at he
     obtain⟨rfl,rfl,rfl⟩:=he
     exact wp_exit ⟨rfl,c0,hg,hb⟩
   | ret =>
     simp only[toMC,Option.some.injEq] at hc
     subst hc
     simp only[ev,Option.some.injEq,Prod.mk.injEq] at he
     obtain⟨rfl,rfl,rfl⟩:=he
     exact wp_ret ⟨rfl,c0,hg,hb⟩
   | label l =>
     simp only[toMC,Option.some.injEq] at hc
     subst hc
     simp only[ev,Option.some.injEq,Prod.mk.injEq] at he
     obtain⟨rfl,rfl,rfl⟩:=he
     exact wp_label ⟨rfl,c0,hg,hb⟩
   | goto l =>
     simp only[toMC,Option.some.injEq] at hc
     subst hc
     simp only[ev,Option.some.injEq,Prod.mk.injEq] at he
     obtain⟨rfl,rfl,rfl⟩:=he
     exact wp_goto ⟨rfl,c0,hg,hb⟩
   | scope x =>
     simp only[toMC,Option.map_eq_some_iff] at hc
     obtain⟨mx,h1,rfl⟩:=hc
     simp only[ev] at he
     split at he
     ·cases he
     ·rename_i r hne
      refine wp_scope_straight (wp_mono (ih E x mx st N _ _ _ c0 a w rfl h1 he hg hb) ?_)
      rintro e a' w' ⟨rfl,hrest⟩
      cases ex with
      | normal=>exact⟨rfl,hrest⟩
      | exit i=>exact⟨rfl,hrest⟩
      | goto l=>exact (hne _ _ _ he).elim
      | ret=>exact⟨rfl,hrest⟩
   | _ =>
     simp only[toMC,Option.some.injEq] at hc
     subst hc
     simp[ev] at he
end Go.Proofs.YtbdogkmdanmojaaGreatDoor.Pv

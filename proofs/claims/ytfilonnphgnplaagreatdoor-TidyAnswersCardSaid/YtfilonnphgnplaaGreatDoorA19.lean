/- Part 19. -/
import Derived.ProofKit
import Derived.Test.YtfilonnphgnplaaGreatDoorA18
import Derived.Lib.LaidU8
import Derived.Lib.LaidU8T
import Derived.PinnedBridge
set_option linter.unusedSimpArgs false
set_option linter.unusedVariables false
set_option linter.constructorNameAsVariable false
set_option maxRecDepth 100000
namespace Go.Proofs.YtfilonnphgnplaaGreatDoor.Pv
open Go Go.Tidy Go.RowKit
def flds (P:Program) (t:TypeId):Option (List (TypeId × Nat)):=match P.underlying t with
 | some (.struct fs)=>some (fs.toList.map fun f=>(f.type,f.offset))
 | _=>none
structure Tys (P:Program):Prop where
 b:P.underlying 4=some .bool
 i:P.underlying 3=some (.int .i64)
 s:P.underlying 9=some .string
 l25:P.underlying 25=some (.slice 106)
 l26:P.underlying 26=some (.slice 9)
 l27:P.underlying 27=some (.slice 98)
 l28:P.underlying 28=some (.slice 57)
 l54:P.underlying 54=some (.slice 30)
 l55:P.underlying 55=some (.slice 4)
 c:∀ e∈[4,3,9,25,26,27,28,54,55],P.cellsOf e=1
 c30:P.cellsOf 30=9
 c57:P.cellsOf 57=12
 c98:P.cellsOf 98=11
 c106:P.cellsOf 106=2
 ty:flds P 30=some [(4,0),(4,1),(4,2),(4,3),(25,4),(4,5),(26,6),(27,7),(28,8)]
 ob:flds P 57=some [(26,0),(54,1),(55,2),(30,3)]
 ar:flds P 98=some [(30,0),(3,9),(3,10)]
 sp:flds P 106=some [(9,0),(9,1)]
 bytes:∀ e∈[106,9,98,57,30,4],1≤P.bytesOf e
def wOk {H:Type} (P:Program) (t:TypeId) (d:DataW H):Prop:=∀ n∈d.weights P t,n≤reachBytes
section
variable {H:Type} {enc:TypeId × Value→H} {P:Program} {W:World}
abbrev allF (W:World):Nat→Prop:=fun b=>b<W.heap.size
def RdOk (enc:TypeId × Value→H) (P:Program) (W:World) (k:Nat) (t:TypeId) {α:Type} (f:α→List PV):Prop :=
 ∀ cs d ps,DataW.trod enc P W 0 (fun _=>true) true k t cs=some (d,ps)→wOk P t d→∃ x:α,aY W (VG (allF W)) (f x) cs∧∀ u∈cs,u.oneCell'=true
theorem rd_zero {t:TypeId} {α:Type} {f:α→List PV}:RdOk enc P W 0 t f:=fun cs d ps h _=>by simp[DataW.trod] at h
theorem rep_one {c:Ctx} {x:PV} {v:Value} (h:bF W c x v):aY W c [x] [v]:=⟨v,[],rfl,h,rfl⟩
theorem rep_one' {c:Ctx} {x:PV} {v:Value} (h:aY W c [x] [v]):bF W c x v:=by
 obtain⟨u,us,e,h1,h2⟩:=h
 simp only[List.cons.injEq] at e
 rw[e.1]; exact h1
theorem rep_app {c:Ctx}:∀ {xs:List PV} {vs:List Value} {ys:List PV} {us:List Value},aY W c xs vs→aY W c ys us→aY W c (xs++ys) (vs++us)
 | [],vs,ys,us,h,k=>by
   have e:vs=[]:=h
   rw[e]; exact k
 | x::xs,vs,ys,us,⟨u,us',e,h1,h2⟩,k=>by
   rw[e]
   exact⟨u,us'++us,rfl,h1,rep_app h2 k⟩
theorem rd_bool {t:TypeId} (ht:P.underlying t=some .bool):∀ k,RdOk enc P W k t jH
 | 0=>rd_zero
 | k+1=>fun cs d ps h _=>by
   unfold DataW.trod at h
   rw[ht] at h
   simp only at h
   split at h
   all_goals (first|(cases h; done)|skip)
   all_goals (simp only[reduceCtorEq,Option.some.injEq] at *)
   rename_i b _
   exact⟨b,rep_one rfl,by simp[Value.oneCell']⟩
theorem rd_str {t:TypeId} (ht:P.underlying t=some .string):∀ k,RdOk enc P W k t encStr
 | 0=>rd_zero
 | k+1=>fun cs d ps h hw=>by
   unfold DataW.trod at h
   rw[ht] at h
   simp only at h
   split at h
   all_goals (first|(cases h; done)|skip)
   all_goals (simp only[reduceCtorEq,Option.some.injEq] at *)
   rename_i s _
   split at h
   ·cases h
    refine⟨s,rep_one ⟨rfl,?_⟩,by simp[Value.oneCell']⟩
    have:=hw s.data.toList.length (by unfold DataW.weights; exact List.mem_singleton.2 rfl)
    have e:s.size=s.data.toList.length:=rfl
    rw[e]
    unfold LIM
    unfold reachBytes at this
    omega
   ·cases h
theorem rd_int {t:TypeId} (ht:P.underlying t=some (.int .i64)):∀ k,RdOk enc P W k t fun n:Int=>[PV.int .i64 n]
 | 0=>rd_zero
 | k+1=>fun cs d ps h hw=>by
   unfold DataW.trod at h
   rw[ht] at h
   simp only at h
   split at h
   all_goals (first|(cases h; done)|skip)
   all_goals (simp only[reduceCtorEq,Option.some.injEq,TypeDesc.int.injEq] at *)
   rename_i k1 k2 n e
   subst e
   split at h
   ·rename_i hh
    obtain⟨rfl,hh⟩:=hh
    refine⟨n,rep_one ⟨rfl,?_⟩,by simp[Value.oneCell']⟩
    simpa[Lit.wf] using hh
   ·cases h
theorem mapM_some {α β:Type} {f:α→Option β}:∀ {l:List α} {xs:List β},l.mapM f=some xs→xs.length=l.length∧∀ i (h:i<l.length),∃ x,xs[i]? = some x∧f l[i]=some x
 | [],xs,h=>by
   simp at h; subst h
   exact⟨rfl,fun i h=>absurd h (by simp)⟩
 | a::l,xs,h=>by
   simp only[List.mapM_cons,Option.pure_def,Option.bind_eq_bind,Option.bind_eq_some_iff,Option.some.injEq] at h
   obtain⟨x,h1,ys,h2,rfl⟩:=h
   obtain⟨h3,h4⟩:=mapM_some h2
   refine⟨by simp[h3],fun i hi=>?_⟩
   cases i with
   | zero=>exact⟨x,rfl,h1⟩
   | succ i =>
     obtain⟨y,k1,k2⟩:=h4 i (by simpa using hi)
     exact⟨y,by simpa using k1,by simpa using k2⟩
theorem each_mem {P:Program}:∀ {ts:List TypeId} {ds:List (DataW H)} {i:Nat} {t:TypeId} {d:DataW H} {n:Nat},ts[i]? = some t→ds[i]? = some d→n∈d.weights P t→n∈DataW.weightsEach P ts ds
 | [],_,_,_,_,_,h,_,_=>by simp at h
 | _::_,[],_,_,_,_,_,h,_=>by simp at h
 | t::ts,d::ds,0,t',d',n,h1,h2,h3=>by
   simp only[List.getElem?_cons_zero,Option.some.injEq] at h1 h2
   subst h1 h2
   simp only[DataW.weightsEach,List.mem_append]; exact .inl h3
 | t::ts,d::ds,i+1,t',d',n,h1,h2,h3=>by
   simp only[List.getElem?_cons_succ] at h1 h2
   simp only[DataW.weightsEach,List.mem_append]; exact .inr (each_mem h1 h2 h3)
theorem all_mem {P:Program} {e:TypeId} {d:DataW H} {n:Nat}:∀ {ds:List (DataW H)},d∈ds→n∈d.weights P e→n∈DataW.weightsAll P e ds
 | [],h,_=>by simp at h
 | d'::ds,h,k=>by
   simp only[DataW.weightsAll,List.mem_append]
   rcases List.mem_cons.1 h with rfl|h
   ·exact .inl k
   ·exact .inr (all_mem h k)
theorem rd_struct {k:Nat} {t:TypeId} {fl:List (TypeId × Nat)} {cs:List Value} {d:DataW H} {ps:List MemPlace} (hf:flds P t=some fl) (h:DataW.trod enc P W 0 (fun _=>true) true (k+1) t cs=some (d,ps)) (hw:wOk P t d) :
 cs.length=P.cellsOf t∧∀ (i:Nat) (ty off:Nat),fl[i]? = some (ty,off)→∃ di pi,DataW.trod enc P W 0 (fun _=>true) true k ty ((cs.drop off).take (P.cellsOf ty))=some (di,pi)∧wOk P ty di:=by
 unfold flds at hf
 split at hf
 ·rename_i fs hfs
  cases hf
  unfold DataW.trod at h
  rw[hfs] at h
  simp only at h
  split at h
  ·rename_i hl
   simp only[Option.map_eq_some_iff] at h
   obtain⟨xs,h1,h2⟩:=h
   cases h2
   obtain⟨h3,h4⟩:=mapM_some h1
   refine⟨hl,fun i ty off hi=>?_⟩
   rw[List.getElem?_map,Option.map_eq_some_iff] at hi
   obtain⟨f,hi,e⟩:=hi
   cases e
   obtain⟨hlt,hi⟩:=List.getElem?_eq_some_iff.1 hi
   obtain⟨x,k1,k2⟩:=h4 i hlt
   rw[hi] at k2
   refine⟨x.1,x.2,k2,fun n hn=>hw n ?_⟩
   simp only[DataW.weights,hfs]
   refine each_mem (i:=i) (t:=f.type) (d:=x.1) ?_ ?_ hn
   ·rw[List.getElem?_map,List.getElem?_eq_getElem hlt,hi]; rfl
   ·rw[List.getElem?_map,k1]; rfl
  ·cases h
 ·cases hf
theorem rep_at {c:Ctx} {b:Nat}:∀ {row:List PV} {o:Nat} {cs:List Value},aY W c row cs→(∀ u∈cs,u.oneCell'=true)→(∀ j,j<cs.length→W.cell? ⟨b,o+j,none⟩=cs[j]?)→dW W c b o row
 | [],_,_,_,_,_=>trivial
 | x::row,o,cs,⟨u,us,e,h1,h2⟩,ho,hc=>by
   subst e
   refine⟨⟨u,by have:=hc 0 (by simp); simpa using this,ho u (by simp),h1⟩,rep_at h2 (fun y hy=>ho y (by simp[hy])) fun j hj=>?_⟩
   have:=hc (j+1) (by simpa using hj)
   simp only[List.getElem?_cons_succ] at this
   rw[← this,show o+1+j=o+(j+1) by omega]
theorem rep_len {c:Ctx}:∀ {row:List PV} {cs:List Value},aY W c row cs→row.length=cs.length
 | [],cs,h=>by
   have e:cs=[]:=h
   rw[e]; rfl
 | x::row,cs,⟨u,us,e,h1,h2⟩=>by rw[e]; simp[rep_len h2]
theorem rd_slice {k:Nat} {t e:TypeId} {esz:Nat} {α:Type} {f:α→List PV} (ht:P.underlying t=some (.slice e)) (hc:P.cellsOf e=esz) (he:0<esz) (hb:1≤P.bytesOf e) (h:RdOk enc P W k e f):RdOk enc P W (k+1) t fun l:List α=>[PV.vec esz false (l.map f)]:=by
 intro cs d ps hr hw
 unfold DataW.trod at hr
 rw[ht] at hr
 simp only at hr
 split at hr
 all_goals (first|(cases hr; done)|skip)
 all_goals (simp only[reduceCtorEq,Option.some.injEq,TypeDesc.slice.injEq] at *)
 ·exact⟨[],rep_one ⟨none,0,rfl,by simp,by omega,by simp[LIM],by simp,.inl rfl⟩,by simp[Value.oneCell']⟩
 ·rename_i e' a len cap ee
  subst ee
  split at hr
  ·rename_i hh
   obtain⟨_,hlc,hcm⟩:=hh
   simp only[Option.bind_eq_some_iff,Option.map_eq_some_iff] at hr
   obtain⟨els,h1,rest,h2,h3⟩:=hr
   cases h3
   obtain⟨h4,h5⟩:=mapM_some h1
   rw[List.length_range] at h4
   have hlim:len≤LIM:=by
    have:=hw ((els.length+rest.length)*P.bytesOf e) (by simp[DataW.weights,ht])
    have h6:els.length+rest.length≤(els.length+rest.length)*P.bytesOf e:=Nat.le_mul_of_pos_right _ hb
    unfold LIM
    unfold reachBytes at this
    omega
   have hel:∀ i,i<len→∃ x:α,∃ cs:List Value,aY W (VG (allF W)) (f x) cs∧(∀ u∈cs,u.oneCell'=true)∧W.cells? 0 (a.add (i*esz)) esz=some cs:=fun i hi=>by
    obtain⟨y,k1,k2⟩:=h5 i (by simpa using hi)
    simp only[List.getElem_range,Option.bind_eq_some_iff,hc] at k2
    obtain⟨cs,k3,k4⟩:=k2
    obtain⟨x,k5,k6⟩:=h cs y.1 y.2 k4 (fun n hn=>hw n (by
     simp only[DataW.weights,ht,List.mem_cons,List.mem_append]
     exact .inr (.inl (all_mem (List.mem_map.2 ⟨y,List.mem_of_getElem? k1,rfl⟩) hn))))
    exact⟨x,cs,k5,k6,k3⟩
   have hz:0<len→∃ v,W.cell? a=some v:=fun h0=>by
    obtain⟨x,cs,r1,r2,r3⟩:=hel 0 h0
    obtain⟨_,r4,r5⟩:=World.cells?_some r3
    have h7:=r5 0 he
    rw[List.getElem?_eq_getElem (show 0<cs.length by rw[r4]; exact he)] at h7
    refine⟨_,Eq.trans ?_ h7⟩
    simp[Addr.add]
   have hspot:0<len→a.spot=none:=fun h0=>by
    obtain⟨v,h7⟩:=hz h0
    cases hs:a.spot with
    | none=>rfl
    | some s =>
      unfold World.cell? at h7
      split at h7
      ·simp[hs] at h7
      ·cases h7
   have key:∀ m,m≤len→∃ l:List α,l.length=m∧aJ W (VG (allF W)) esz a.block (a.off+(len-m)*esz) (l.map f):=by
    intro m
    induction m with
    | zero=>exact fun _=>⟨[],rfl,trivial⟩
    | succ m ih =>
      intro hm
      obtain⟨l,l1,l2⟩:=ih (by omega)
      obtain⟨x,cs,r1,r2,r3⟩:=hel (len-(m+1)) (by omega)
      obtain⟨_,r4,r5⟩:=World.cells?_some r3
      refine⟨x::l,by simp[l1],(rep_len r1).trans r4,rep_at r1 r2 fun j hj=>?_,?_⟩
      ·have h7:=r5 j (by omega)
       rw[← h7]
       have hs:=hspot (by omega)
       obtain⟨ab,ao,asp⟩:=a
       simp only at hs
       subst hs
       congr 1
       simp only[Addr.add]
       split<;>split<;>simp_all<;>omega
      ·have e:a.off+(len-(m+1))*esz+esz=a.off+(len-m)*esz:=by
          have:len-m=(len-(m+1))+1:=by omega
          rw[this,Nat.succ_mul]; omega
       rw[e]; exact l2
   obtain⟨l,l1,l2⟩:=key len (Nat.le_refl _)
   refine⟨l,rep_one ⟨some a,cap,by simp[l1],by simpa[l1] using hlc,by unfold maxLen at hcm; omega,by simpa[l1] using hlim,by simp,?_⟩,by simp[Value.oneCell']⟩
   by_cases h0:len=0
   ·left
    have:l=[]:=List.length_eq_zero_iff.1 (by omega)
    simp[this]
   ·right
    obtain⟨v,h7⟩:=hz (by omega)
    refine⟨a,rfl,hspot (by omega),?_,?_⟩
    ·show a.block<W.heap.size
     unfold World.cell? at h7
     split at h7
     ·rename_i hb'
      exact (Array.getElem?_eq_some_iff.1 hb').1
     ·cases h7
    ·rw[Nat.sub_self,Nat.zero_mul,Nat.add_zero] at l2
     exact l2
  ·cases hr
theorem rd_span (T:Tys P) (k:Nat):RdOk enc P W k 106 dH:=by
 cases k with
 | zero=>exact rd_zero
 | succ k =>
   intro cs d ps h hw
   obtain⟨hl,hf⟩:=rd_struct T.sp h hw
   rw[T.c106] at hl
   match cs,hl with
   | [c0,c1],_ =>
     obtain⟨d0,p0,f0,w0⟩:=hf 0 9 0 rfl
     obtain⟨d1,p1,f1,w1⟩:=hf 1 9 1 rfl
     rw[T.c 9 (by decide)] at f0 f1
     obtain⟨a,a1,a2⟩:=rd_str T.s k _ _ _ f0 w0
     obtain⟨b,b1,b2⟩:=rd_str T.s k _ _ _ f1 w1
     refine⟨⟨a,b⟩,rep_app (xs:=encStr a) (vs:=[c0]) a1 (ys:=encStr b) (us:=[c1]) b1,fun u hu=>?_⟩
     simp only[List.mem_cons,List.not_mem_nil,or_false] at hu
     rcases hu with rfl|rfl
     ·exact a2 _ (by simp)
     ·exact b2 _ (by simp)
theorem rd_arr (T:Tys P) (k:Nat) (h30:RdOk enc P W k 30 eU):RdOk enc P W (k+1) 98 dh:=by
 intro cs d ps h hw
 obtain⟨hl,hf⟩:=rd_struct T.ar h hw
 rw[T.c98] at hl
 obtain⟨d0,p0,f0,w0⟩:=hf 0 30 0 rfl
 obtain⟨d1,p1,f1,w1⟩:=hf 1 3 9 rfl
 obtain⟨d2,p2,f2,w2⟩:=hf 2 3 10 rfl
 rw[T.c30] at f0
 rw[T.c 3 (by decide)] at f1 f2
 obtain⟨t,a1,a2⟩:=h30 _ _ _ f0 w0
 obtain⟨lo,b1,b2⟩:=rd_int T.i k _ _ _ f1 w1
 obtain⟨hi,e1,e2⟩:=rd_int T.i k _ _ _ f2 w2
 have e:cs=(cs.drop 0).take 9++((cs.drop 9).take 1++(cs.drop 10).take 1):=by
  match cs,hl with
  | [c0,c1,c2,c3,c4,c5,c6,c7,c8,c9,c10],_=>rfl
 refine⟨.mk t lo hi,?_,fun u hu=>?_⟩
 ·rw[e]
  exact rep_app a1 (rep_app (xs:=[.int .i64 lo]) b1 (ys:=[.int .i64 hi]) e1)
 ·rw[e] at hu
  simp only[List.mem_append] at hu
  rcases hu with hu|hu|hu
  ·exact a2 _ hu
  ·exact b2 _ hu
  ·exact e2 _ hu
theorem rd_obj (T:Tys P) (k:Nat) (h30:∀ j,j≤k→RdOk enc P W j 30 eU):RdOk enc P W (k+1) 57 av:=by
 intro cs d ps h hw
 obtain⟨hl,hf⟩:=rd_struct T.ob h hw
 rw[T.c57] at hl
 cases k with
 | zero =>
   obtain⟨d0,p0,f0,w0⟩:=hf 0 26 0 rfl
   simp[DataW.trod] at f0
 | succ k =>
   obtain⟨d0,p0,f0,w0⟩:=hf 0 26 0 rfl
   obtain⟨d1,p1,f1,w1⟩:=hf 1 54 1 rfl
   obtain⟨d2,p2,f2,w2⟩:=hf 2 55 2 rfl
   obtain⟨d3,p3,f3,w3⟩:=hf 3 30 3 rfl
   rw[T.c 26 (by decide)] at f0
   rw[T.c 54 (by decide)] at f1
   rw[T.c 55 (by decide)] at f2
   rw[T.c30] at f3
   obtain⟨ns,a1,a2⟩:=rd_slice T.l26 (T.c 9 (by decide)) (by omega) (T.bytes 9 (by decide)) (rd_str T.s k) _ _ _ f0 w0
   obtain⟨fs,b1,b2⟩:=rd_slice T.l54 T.c30 (by omega) (T.bytes 30 (by decide)) (h30 k (by omega)) _ _ _ f1 w1
   obtain⟨ms,e1,e2⟩:=rd_slice T.l55 (T.c 4 (by decide)) (by omega) (T.bytes 4 (by decide)) (rd_bool T.b k) _ _ _ f2 w2
   obtain⟨r,g1,g2⟩:=h30 _ (Nat.le_refl _) _ _ _ f3 w3
   have e:cs=(cs.drop 0).take 1++((cs.drop 1).take 1++((cs.drop 2).take 1++(cs.drop 3).take 9)):=by
    match cs,hl with
    | [c0,c1,c2,c3,c4,c5,c6,c7,c8,c9,c10,c11],_=>rfl
   refine⟨.mk ns fs ms r,?_,fun u hu=>?_⟩
   ·rw[e]
    simp only[av,aFy]
    exact rep_app (xs:=[_]) a1 (rep_app (xs:=[_]) b1 (rep_app (xs:=[_]) e1 g1))
   ·rw[e] at hu
    simp only[List.mem_append] at hu
    rcases hu with hu|hu|hu|hu
    ·exact a2 _ hu
    ·exact b2 _ hu
    ·exact e2 _ hu
    ·exact g2 _ hu
theorem rd_ty (T:Tys P):∀ n k:Nat,k≤n→RdOk enc P W k 30 eU:=by
 intro n
 induction n with
 | zero =>
   intro k hk
   obtain rfl:k=0:=by omega
   exact rd_zero
 | succ n ih =>
   intro k hk
   match k with
   | 0=>exact rd_zero
   | 1 =>
     intro cs d ps h hw
     obtain⟨hl,hf⟩:=rd_struct T.ty h hw
     obtain⟨d0,p0,f0,w0⟩:=hf 0 4 0 rfl
     simp[DataW.trod] at f0
   | k+2 =>
     intro cs d ps h hw
     obtain⟨hl,hf⟩:=rd_struct T.ty h hw
     rw[T.c30] at hl
     obtain⟨d0,p0,f0,w0⟩:=hf 0 4 0 rfl
     obtain⟨d1,p1,f1,w1⟩:=hf 1 4 1 rfl
     obtain⟨d2,p2,f2,w2⟩:=hf 2 4 2 rfl
     obtain⟨d3,p3,f3,w3⟩:=hf 3 4 3 rfl
     obtain⟨d4,p4,f4,w4⟩:=hf 4 25 4 rfl
     obtain⟨d5,p5,f5,w5⟩:=hf 5 4 5 rfl
     obtain⟨d6,p6,f6,w6⟩:=hf 6 26 6 rfl
     obtain⟨d7,p7,f7,w7⟩:=hf 7 27 7 rfl
     obtain⟨d8,p8,f8,w8⟩:=hf 8 28 8 rfl
     rw[T.c 4 (by decide)] at f0 f1 f2 f3 f5
     rw[T.c 25 (by decide)] at f4
     rw[T.c 26 (by decide)] at f6
     rw[T.c 27 (by decide)] at f7
     rw[T.c 28 (by decide)] at f8
     obtain⟨a0,r0,o0⟩:=rd_bool T.b (k+1) _ _ _ f0 w0
     obtain⟨a1,r1,o1⟩:=rd_bool T.b (k+1) _ _ _ f1 w1
     obtain⟨a2,r2,o2⟩:=rd_bool T.b (k+1) _ _ _ f2 w2
     obtain⟨a3,r3,o3⟩:=rd_bool T.b (k+1) _ _ _ f3 w3
     obtain⟨a4,r4,o4⟩:=rd_slice T.l25 T.c106 (by omega) (T.bytes 106 (by decide)) (rd_span T k) _ _ _ f4 w4
     obtain⟨a5,r5,o5⟩:=rd_bool T.b (k+1) _ _ _ f5 w5
     obtain⟨a6,r6,o6⟩:=rd_slice T.l26 (T.c 9 (by decide)) (by omega) (T.bytes 9 (by decide)) (rd_str T.s k) _ _ _ f6 w6
     have hA:RdOk enc P W k 98 dh:=by
      cases k with
      | zero=>exact rd_zero
      | succ k=>exact rd_arr T k (ih k (by omega))
     have hO:RdOk enc P W k 57 av:=by
      cases k with
      | zero=>exact rd_zero
      | succ k=>exact rd_obj T k fun j hj=>ih j (by omega)
     obtain⟨a7,r7,o7⟩:=rd_slice T.l27 T.c98 (by omega) (T.bytes 98 (by decide)) hA _ _ _ f7 w7
     obtain⟨a8,r8,o8⟩:=rd_slice T.l28 T.c57 (by omega) (T.bytes 57 (by decide)) hO _ _ _ f8 w8
     have e:cs=(cs.drop 0).take 1++((cs.drop 1).take 1++((cs.drop 2).take 1++((cs.drop 3).take 1++((cs.drop 4).take 1++((cs.drop 5).take 1++((cs.drop 6).take 1++((cs.drop 7).take 1++(cs.drop 8).take 1))))))):=by
      match cs,hl with
      | [c0,c1,c2,c3,c4,c5,c6,c7,c8],_=>rfl
     refine⟨.mk a0 a1 a2 a3 a4 a5 a6 a7 a8,?_,fun u hu=>?_⟩
     ·rw[e]
      simp only[eU,aEm,aEn]
      exact rep_app (xs:=[_]) r0 (rep_app (xs:=[_]) r1 (rep_app (xs:=[_]) r2 (rep_app (xs:=[_]) r3 (rep_app (xs:=[_]) r4 (rep_app (xs:=[_]) r5 (rep_app (xs:=[_]) r6 (rep_app (xs:=[_]) r7 r8)))))))
     ·rw[e] at hu
      simp only[List.mem_append] at hu
      rcases hu with hu|hu|hu|hu|hu|hu|hu|hu|hu
      ·exact o0 _ hu
      ·exact o1 _ hu
      ·exact o2 _ hu
      ·exact o3 _ hu
      ·exact o4 _ hu
      ·exact o5 _ hu
      ·exact o6 _ hu
      ·exact o7 _ hu
      ·exact o8 _ hu
end
end Go.Proofs.YtfilonnphgnplaaGreatDoor.Pv
namespace Go.Proofs.YtfilonnphgnplaaGreatDoor
open Go Go.ChangeShapes Go.WideShapes Go.ChangeAt Go.RowKit
theorem own:ownKnob Tryz.prog.godebug=none:=by kernel_rfl
theorem laidOut:laidOutB Tryz.prog=true:=by kernel_rfl
theorem tysOk:Pv.Tys Tryz.prog where
 b:=by kernel_rfl
 i:=by kernel_rfl
 s:=by kernel_rfl
 l25:=by kernel_rfl
 l26:=by kernel_rfl
 l27:=by kernel_rfl
 l28:=by kernel_rfl
 l54:=by kernel_rfl
 l55:=by kernel_rfl
 c:=by
   have h:([4,3,9,25,26,27,28,54,55].all fun e=>Tryz.prog.cellsOf e == 1)=true:=by kernel_rfl
   intro e he
   simpa using List.all_eq_true.1 h e he
 c30:=by kernel_rfl
 c57:=by kernel_rfl
 c98:=by kernel_rfl
 c106:=by kernel_rfl
 ty:=by kernel_rfl
 ob:=by kernel_rfl
 ar:=by kernel_rfl
 sp:=by kernel_rfl
 bytes:=by
  have h:([106,9,98,57,30,4].all fun e=>decide (1≤Tryz.prog.bytesOf e))=true:=by kernel_rfl
  intro e he
  simpa using List.all_eq_true.1 h e he
theorem u8x:U8Extra Tryz.prog Tryz.KO:=⟨by kernel_rfl,by kernel_rfl,by kernel_rfl,by kernel_rfl,by kernel_rfl,by kernel_rfl,by kernel_rfl⟩
theorem gtab_all:((List.range Tryz.prog.globals.size).all fun g=>match Pv.aGn Tryz.prog g with
 | none=>true
 | some cs=>(g == Tryz.KO.g 3&&cs == Pv.utf8First)||(g == Tryz.KO.g 4&&cs == Pv.adu))=true:=by kernel_rfl
theorem gtab_cases {g:Nat} {cs:List Nat} (h:Pv.aGn Tryz.prog g=some cs):(g=Tryz.KO.g 3∧cs=Pv.utf8First)∨(g=Tryz.KO.g 4∧cs=Pv.adu):=by
 have hg:g<Tryz.prog.globals.size:=by
  have h2:=h
  unfold Pv.aGn at h2
  split at h2
  ·rename_i gl hgl
   exact (Array.getElem?_eq_some_iff.1 hgl).1
  ·cases h2
 have h3:=List.all_eq_true.1 gtab_all g (List.mem_range.2 hg)
 rw[h] at h3
 simp only[Bool.or_eq_true,Bool.and_eq_true,beq_iff_eq] at h3
 exact h3
theorem cell_lt {w:World} {g j:Nat} {v:Value} (h:w.cell? ⟨g,j,none⟩=some v):g<w.heap.size:=by
 unfold World.cell? at h
 split at h
 ·rename_i hb
  exact (Array.getElem?_eq_some_iff.1 hb).1
 ·cases h
theorem first_le:∀ c:Fin 256,Lib.firstT c.1≤255:=by decide +kernel
theorem accept_le:∀ i:Fin 16,Lib.accLo i.1≤255∧Lib.accHi i.1≤255:=by decide +kernel
theorem first_len:Pv.utf8First.length=256:=by kernel_rfl
theorem accept_len:Pv.adu.length=32:=by kernel_rfl
theorem gok_of {w:World} (hT:Lib.Utf8Tabs (Tryz.KO.g 3) (Tryz.KO.g 4) w):Pv.GOk Tryz.prog w (Pv.allF w):=by
 intro g cs hg
 rcases gtab_cases hg with ⟨e1,e2⟩|⟨e1,e2⟩
 ·have h0:=hT.1 0 (by omega)
  rw[← e1] at h0
  refine⟨cell_lt h0,cell_lt h0,fun j n hj=>?_⟩
  rw[e2] at hj
  have hl:j<256:=by
   have:=(List.getElem?_eq_some_iff.1 hj).1
   rw[first_len] at this; exact this
  have e:=Pv.aKr ⟨j,hl⟩
  rw[hj] at e
  have e:=Option.some.inj e
  rw[e,e1]
  exact⟨hT.1 j hl,first_le ⟨j,hl⟩⟩
 ·have h0:=(hT.2 0 (by omega)).1
  rw[← e1] at h0
  refine⟨cell_lt h0,cell_lt h0,fun j n hj=>?_⟩
  rw[e2] at hj
  have hl:j<32:=by
   have:=(List.getElem?_eq_some_iff.1 hj).1
   rw[accept_len] at this; exact this
  have hi:j / 2<16:=by omega
  rw[e1]
  by_cases hp:j % 2=0
  ·have ej:j=2*(j / 2):=by omega
   have e:=(Pv.avc ⟨j / 2,hi⟩).1
   simp only at e
   rw[← ej,hj] at e
   have e:=Option.some.inj e
   have h1:=(hT.2 (j / 2) hi).1
   rw[← ej] at h1
   rw[e]
   exact⟨h1,(accept_le ⟨j / 2,hi⟩).1⟩
  ·have ej:j=2*(j / 2)+1:=by omega
   have e:=(Pv.avc ⟨j / 2,hi⟩).2
   simp only at e
   rw[← ej,hj] at e
   have e:=Option.some.inj e
   have h1:=(hT.2 (j / 2) hi).2
   rw[← ej] at h1
   rw[e]
   exact⟨h1,(accept_le ⟨j / 2,hi⟩).2⟩
end Go.Proofs.YtfilonnphgnplaaGreatDoor
namespace Go.Proofs.YtfilonnphgnplaaGreatDoor.Pv
open Go Go.Tidy Go.RowKit
structure TysO (P:Program):Prop where
 l22:P.underlying 22=some (.slice 32)
 c22:P.cellsOf 22=1
 c32:P.cellsOf 32=20
 op:flds P 32=some [(3,0),(30,1),(30,10),(3,19)]
 by32:1≤P.bytesOf 32
section
variable {H:Type} {enc:TypeId × Value→H} {P:Program} {W:World}
theorem rd_op (T:Tys P) (V:TysO P) (k:Nat):RdOk enc P W k 32 cOp:=by
 cases k with
 | zero=>exact rd_zero
 | succ k =>
   intro cs d ps h hw
   obtain⟨hl,hf⟩:=rd_struct V.op h hw
   rw[V.c32] at hl
   obtain⟨d0,p0,f0,w0⟩:=hf 0 3 0 rfl
   obtain⟨d1,p1,f1,w1⟩:=hf 1 30 1 rfl
   obtain⟨d2,p2,f2,w2⟩:=hf 2 30 10 rfl
   obtain⟨d3,p3,f3,w3⟩:=hf 3 3 19 rfl
   rw[T.c 3 (by decide)] at f0 f3
   rw[T.c30] at f1 f2
   obtain⟨a0,r0,o0⟩:=rd_int T.i k _ _ _ f0 w0
   obtain⟨a1,r1,o1⟩:=rd_ty T k k (Nat.le_refl _) _ _ _ f1 w1
   obtain⟨a2,r2,o2⟩:=rd_ty T k k (Nat.le_refl _) _ _ _ f2 w2
   obtain⟨a3,r3,o3⟩:=rd_int T.i k _ _ _ f3 w3
   have e:cs=(cs.drop 0).take 1++((cs.drop 1).take 9++((cs.drop 10).take 9++(cs.drop 19).take 1)):=by
    match cs,hl with
    | [c0,c1,c2,c3,c4,c5,c6,c7,c8,c9,c10,c11,c12,c13,c14,c15,c16,c17,c18,c19],_=>rfl
   refine⟨⟨a0,a1,a2,a3⟩,?_,fun u hu=>?_⟩
   ·rw[e]
    rw[adU] at r1 r2
    exact rep_app (xs:=[_]) r0 (rep_app r1 (rep_app r2 (ys:=[_]) r3))
   ·rw[e] at hu
    simp only[List.mem_append] at hu
    rcases hu with hu|hu|hu|hu
    ·exact o0 _ hu
    ·exact o1 _ hu
    ·exact o2 _ hu
    ·exact o3 _ hu
theorem read_ops (T:Tys P) (V:TysO P) {a:Option Addr} {len cap:Nat} {v:Value} {d:DataW H} {ps:List MemPlace} (hv:v=.slice a len cap) (h:DataW.Trod enc P W 0 (fun _=>true) true 22 v d ps) (hw:wOk P 22 d):∃ l:List Op,bF W (VG (allF W)) (.vec 20 false (l.map cOp)) v:=by
 obtain⟨fuel,h⟩:=h
 subst hv
 cases fuel with
 | zero=>simp[DataW.trod] at h
 | succ k =>
   obtain⟨l,h1,h2⟩:=rd_slice V.l22 V.c32 (by omega) V.by32 (rd_op T V k) _ _ _ h hw
   exact⟨l,rep_one' h1⟩
end
end Go.Proofs.YtfilonnphgnplaaGreatDoor.Pv
namespace Go.Proofs.YtfilonnphgnplaaGreatDoor
open Go Go.ChangeShapes Go.WideShapes Go.ChangeAt Go.RowKit
theorem tysOOk:Pv.TysO Tryz.prog where
 l22:=by kernel_rfl
 c22:=by kernel_rfl
 c32:=by kernel_rfl
 op:=by kernel_rfl
 by32:=of_decide_eq_true (by kernel_rfl)
end Go.Proofs.YtfilonnphgnplaaGreatDoor

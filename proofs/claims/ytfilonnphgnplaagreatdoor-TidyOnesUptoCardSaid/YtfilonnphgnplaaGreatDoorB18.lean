/- Part 18. -/
import Derived.ProofKit
import Derived.Test.YtfilonnphgnplaaGreatDoorB17
import Derived.Lib.LaidU8
import Derived.Lib.LaidU8T
import Derived.PinnedBridge
set_option linter.unusedSimpArgs false
set_option linter.unusedVariables false
namespace Go.Proofs.YtfilonnphgnplaaGreatDoor.Pv
open Go Go.Tidy Go.RowKit
def flds (P:Program) (t:TypeId):Option (List (TypeId × Nat)):=match P.underlying t with
 | some (.struct fs)=>some (fs.toList.map fun f=>(f.type,f.offset))
 | _=>none
structure Tys (P:Program):Prop where
 b:P.underlying 4=some .bool
 i:P.underlying 3=some (.int .i64)
 s:P.underlying 9=some .string
 l25:P.underlying 25=some (.slice 106)
 l26:P.underlying 26=some (.slice 9)
 l27:P.underlying 27=some (.slice 98)
 l28:P.underlying 28=some (.slice 57)
 l54:P.underlying 54=some (.slice 30)
 l55:P.underlying 55=some (.slice 4)
 c:∀ e∈[4,3,9,25,26,27,28,54,55],P.cellsOf e=1
 c30:P.cellsOf 30=9
 c57:P.cellsOf 57=12
 c98:P.cellsOf 98=11
 c106:P.cellsOf 106=2
 ty:flds P 30=some [(4,0),(4,1),(4,2),(4,3),(25,4),(4,5),(26,6),(27,7),(28,8)]
 ob:flds P 57=some [(26,0),(54,1),(55,2),(30,3)]
 ar:flds P 98=some [(30,0),(3,9),(3,10)]
 sp:flds P 106=some [(9,0),(9,1)]
 bytes:∀ e∈[106,9,98,57,30,4],1≤P.bytesOf e
def wOk {H:Type} (P:Program) (t:TypeId) (d:DataW H):Prop:=∀ n∈d.weights P t,n≤reachBytes
section
variable {H:Type} {enc:TypeId × Value→H} {P:Program} {W:World}
abbrev allF (W:World):Nat→Prop:=fun b=>b<W.heap.size
def RdOk (enc:TypeId × Value→H) (P:Program) (W:World) (k:Nat) (t:TypeId) {α:Type} (f:α→List PV):Prop :=
 ∀ cs d ps,DataW.trod enc P W 0 (fun _=>true) true k t cs=some (d,ps)→wOk P t d→∃ x:α,RepL W (dctx (allF W)) (f x) cs∧∀ u∈cs,u.oneCell'=true
theorem rd_zero {t:TypeId} {α:Type} {f:α→List PV}:RdOk enc P W 0 t f:=fun cs d ps h _=>by simp[DataW.trod] at h
theorem rep_one {c:Ctx} {x:PV} {v:Value} (h:RepV W c x v):RepL W c [x] [v]:=⟨v,[],rfl,h,rfl⟩
theorem rep_app {c:Ctx}:∀ {xs:List PV} {vs:List Value} {ys:List PV} {us:List Value},RepL W c xs vs→RepL W c ys us→RepL W c (xs++ys) (vs++us)
 | [],vs,ys,us,h,k=>by
   have e:vs=[]:=h
   rw[e]; exact k
 | x::xs,vs,ys,us,⟨u,us',e,h1,h2⟩,k=>by
   rw[e]
   exact⟨u,us'++us,rfl,h1,rep_app h2 k⟩
theorem rd_bool {t:TypeId} (ht:P.underlying t=some .bool):∀ k,RdOk enc P W k t encBool
 | 0=>rd_zero
 | k+1=>fun cs d ps h _=>by
   unfold DataW.trod at h
   rw[ht] at h
   simp only at h
   split at h
   all_goals (first|(cases h; done)|skip)
   all_goals (simp only[reduceCtorEq,Option.some.injEq] at *)
   rename_i b _
   exact⟨b,rep_one rfl,by simp[Value.oneCell']⟩
theorem rd_str {t:TypeId} (ht:P.underlying t=some .string):∀ k,RdOk enc P W k t encStr
 | 0=>rd_zero
 | k+1=>fun cs d ps h hw=>by
   unfold DataW.trod at h
   rw[ht] at h
   simp only at h
   split at h
   all_goals (first|(cases h; done)|skip)
   all_goals (simp only[reduceCtorEq,Option.some.injEq] at *)
   rename_i s _
   split at h
   ·cases h
    refine⟨s,rep_one ⟨rfl,?_⟩,by simp[Value.oneCell']⟩
    have:=hw s.data.toList.length (by unfold DataW.weights; exact List.mem_singleton.2 rfl)
    have e:s.size=s.data.toList.length:=rfl
    rw[e]
    unfold LIM
    unfold reachBytes at this
    omega
   ·cases h
theorem rd_int {t:TypeId} (ht:P.underlying t=some (.int .i64)):∀ k,RdOk enc P W k t fun n:Int=>[PV.int .i64 n]
 | 0=>rd_zero
 | k+1=>fun cs d ps h hw=>by
   unfold DataW.trod at h
   rw[ht] at h
   simp only at h
   split at h
   all_goals (first|(cases h; done)|skip)
   all_goals (simp only[reduceCtorEq,Option.some.injEq,TypeDesc.int.injEq] at *)
   rename_i k1 k2 n e
   subst e
   split at h
   ·rename_i hh
    obtain⟨rfl,hh⟩:=hh
    refine⟨n,rep_one ⟨rfl,?_⟩,by simp[Value.oneCell']⟩
    simpa[Lit.wf] using hh
   ·cases h
theorem mapM_some {α β:Type} {f:α→Option β}:∀ {l:List α} {xs:List β},l.mapM f=some xs→xs.length=l.length∧∀ i (h:i<l.length),∃ x,xs[i]? = some x∧f l[i]=some x
 | [],xs,h=>by
   simp at h; subst h
   exact⟨rfl,fun i h=>absurd h (by simp)⟩
 | a::l,xs,h=>by
   simp only[List.mapM_cons,Option.pure_def,Option.bind_eq_bind,Option.bind_eq_some_iff,Option.some.injEq] at h
   obtain⟨x,h1,ys,h2,rfl⟩:=h
   obtain⟨h3,h4⟩:=mapM_some h2
   refine⟨by simp[h3],fun i hi=>?_⟩
   cases i with
   | zero=>exact⟨x,rfl,h1⟩
   | succ i =>
     obtain⟨y,k1,k2⟩:=h4 i (by simpa using hi)
     exact⟨y,by simpa using k1,by simpa using k2⟩
theorem each_mem {P:Program}:∀ {ts:List TypeId} {ds:List (DataW H)} {i:Nat} {t:TypeId} {d:DataW H} {n:Nat},ts[i]? = some t→ds[i]? = some d→n∈d.weights P t→n∈DataW.weightsEach P ts ds
 | [],_,_,_,_,_,h,_,_=>by simp at h
 | _::_,[],_,_,_,_,_,h,_=>by simp at h
 | t::ts,d::ds,0,t',d',n,h1,h2,h3=>by
   simp only[List.getElem?_cons_zero,Option.some.injEq] at h1 h2
   subst h1 h2
   simp only[DataW.weightsEach,List.mem_append]; exact .inl h3
 | t::ts,d::ds,i+1,t',d',n,h1,h2,h3=>by
   simp only[List.getElem?_cons_succ] at h1 h2
   simp only[DataW.weightsEach,List.mem_append]; exact .inr (each_mem h1 h2 h3)
theorem all_mem {P:Program} {e:TypeId} {d:DataW H} {n:Nat}:∀ {ds:List (DataW H)},d∈ds→n∈d.weights P e→n∈DataW.weightsAll P e ds
 | [],h,_=>by simp at h
 | d'::ds,h,k=>by
   simp only[DataW.weightsAll,List.mem_append]
   rcases List.mem_cons.1 h with rfl|h
   ·exact .inl k
   ·exact .inr (all_mem h k)
theorem rd_struct {k:Nat} {t:TypeId} {fl:List (TypeId × Nat)} {cs:List Value} {d:DataW H} {ps:List MemPlace} (hf:flds P t=some fl) (h:DataW.trod enc P W 0 (fun _=>true) true (k+1) t cs=some (d,ps)) (hw:wOk P t d) :
 cs.length=P.cellsOf t∧∀ (i:Nat) (ty off:Nat),fl[i]? = some (ty,off)→∃ di pi,DataW.trod enc P W 0 (fun _=>true) true k ty ((cs.drop off).take (P.cellsOf ty))=some (di,pi)∧wOk P ty di:=by
 unfold flds at hf
 split at hf
 ·rename_i fs hfs
  cases hf
  unfold DataW.trod at h
  rw[hfs] at h
  simp only at h
  split at h
  ·rename_i hl
   simp only[Option.map_eq_some_iff] at h
   obtain⟨xs,h1,h2⟩:=h
   cases h2
   obtain⟨h3,h4⟩:=mapM_some h1
   refine⟨hl,fun i ty off hi=>?_⟩
   rw[List.getElem?_map,Option.map_eq_some_iff] at hi
   obtain⟨f,hi,e⟩:=hi
   cases e
   obtain⟨hlt,hi⟩:=List.getElem?_eq_some_iff.1 hi
   obtain⟨x,k1,k2⟩:=h4 i hlt
   rw[hi] at k2
   refine⟨x.1,x.2,k2,fun n hn=>hw n ?_⟩
   simp only[DataW.weights,hfs]
   refine each_mem (i:=i) (t:=f.type) (d:=x.1) ?_ ?_ hn
   ·rw[List.getElem?_map,List.getElem?_eq_getElem hlt,hi]; rfl
   ·rw[List.getElem?_map,k1]; rfl
  ·cases h
 ·cases hf
theorem rep_at {c:Ctx} {b:Nat}:∀ {row:List PV} {o:Nat} {cs:List Value},RepL W c row cs→(∀ u∈cs,u.oneCell'=true)→(∀ j,j<cs.length→W.cell? ⟨b,o+j,none⟩=cs[j]?)→RepAt W c b o row
 | [],_,_,_,_,_=>trivial
 | x::row,o,cs,⟨u,us,e,h1,h2⟩,ho,hc=>by
   subst e
   refine⟨⟨u,by have:=hc 0 (by simp); simpa using this,ho u (by simp),h1⟩,rep_at h2 (fun y hy=>ho y (by simp[hy])) fun j hj=>?_⟩
   have:=hc (j+1) (by simpa using hj)
   simp only[List.getElem?_cons_succ] at this
   rw[← this,show o+1+j=o+(j+1) by omega]
theorem rep_len {c:Ctx}:∀ {row:List PV} {cs:List Value},RepL W c row cs→row.length=cs.length
 | [],cs,h=>by
   have e:cs=[]:=h
   rw[e]; rfl
 | x::row,cs,⟨u,us,e,h1,h2⟩=>by rw[e]; simp[rep_len h2]
theorem rd_slice {k:Nat} {t e:TypeId} {esz:Nat} {α:Type} {f:α→List PV} (ht:P.underlying t=some (.slice e)) (hc:P.cellsOf e=esz) (he:0<esz) (hb:1≤P.bytesOf e) (h:RdOk enc P W k e f):RdOk enc P W (k+1) t fun l:List α=>[PV.vec esz false (l.map f)]:=by
 intro cs d ps hr hw
 unfold DataW.trod at hr
 rw[ht] at hr
 simp only at hr
 split at hr
 all_goals (first|(cases hr; done)|skip)
 all_goals (simp only[reduceCtorEq,Option.some.injEq,TypeDesc.slice.injEq] at *)
 ·exact⟨[],rep_one ⟨none,0,rfl,by simp,by omega,by simp[LIM],by simp,.inl rfl⟩,by simp[Value.oneCell']⟩
 ·rename_i e' a len cap ee
  subst ee
  split at hr
  ·rename_i hh
   obtain⟨_,hlc,hcm⟩:=hh
   simp only[Option.bind_eq_some_iff,Option.map_eq_some_iff] at hr
   obtain⟨els,h1,rest,h2,h3⟩:=hr
   cases h3
   obtain⟨h4,h5⟩:=mapM_some h1
   rw[List.length_range] at h4
   have hlim:len≤LIM:=by
    have:=hw ((els.length+rest.length)*P.bytesOf e) (by simp[DataW.weights,ht])
    have h6:els.length+rest.length≤(els.length+rest.length)*P.bytesOf e:=Nat.le_mul_of_pos_right _ hb
    unfold LIM
    unfold reachBytes at this
    omega
   have hel:∀ i,i<len→∃ x:α,∃ cs:List Value,RepL W (dctx (allF W)) (f x) cs∧(∀ u∈cs,u.oneCell'=true)∧W.cells? 0 (a.add (i*esz)) esz=some cs:=fun i hi=>by
    obtain⟨y,k1,k2⟩:=h5 i (by simpa using hi)
    simp only[List.getElem_range,Option.bind_eq_some_iff,hc] at k2
    obtain⟨cs,k3,k4⟩:=k2
    obtain⟨x,k5,k6⟩:=h cs y.1 y.2 k4 (fun n hn=>hw n (by
     simp only[DataW.weights,ht,List.mem_cons,List.mem_append]
     exact .inr (.inl (all_mem (List.mem_map.2 ⟨y,List.mem_of_getElem? k1,rfl⟩) hn))))
    exact⟨x,cs,k5,k6,k3⟩
   have hz:0<len→∃ v,W.cell? a=some v:=fun h0=>by
    obtain⟨x,cs,r1,r2,r3⟩:=hel 0 h0
    obtain⟨_,r4,r5⟩:=World.cells?_some r3
    have h7:=r5 0 he
    rw[List.getElem?_eq_getElem (show 0<cs.length by rw[r4]; exact he)] at h7
    refine⟨_,Eq.trans ?_ h7⟩
    simp[Addr.add]
   have hspot:0<len→a.spot=none:=fun h0=>by
    obtain⟨v,h7⟩:=hz h0
    cases hs:a.spot with
    | none=>rfl
    | some s =>
      unfold World.cell? at h7
      split at h7
      ·simp[hs] at h7
      ·cases h7
   have key:∀ m,m≤len→∃ l:List α,l.length=m∧RepRows W (dctx (allF W)) esz a.block (a.off+(len-m)*esz) (l.map f):=by
    intro m
    induction m with
    | zero=>exact fun _=>⟨[],rfl,trivial⟩
    | succ m ih =>
      intro hm
      obtain⟨l,l1,l2⟩:=ih (by omega)
      obtain⟨x,cs,r1,r2,r3⟩:=hel (len-(m+1)) (by omega)
      obtain⟨_,r4,r5⟩:=World.cells?_some r3
      refine⟨x::l,by simp[l1],(rep_len r1).trans r4,rep_at r1 r2 fun j hj=>?_,?_⟩
      ·have h7:=r5 j (by omega)
       rw[← h7]
       have hs:=hspot (by omega)
       obtain⟨ab,ao,asp⟩:=a
       simp only at hs
       subst hs
       congr 1
       simp only[Addr.add]
       split<;>split<;>simp_all<;>omega
      ·have e:a.off+(len-(m+1))*esz+esz=a.off+(len-m)*esz:=by
          have:len-m=(len-(m+1))+1:=by omega
          rw[this,Nat.succ_mul]; omega
       rw[e]; exact l2
   obtain⟨l,l1,l2⟩:=key len (Nat.le_refl _)
   refine⟨l,rep_one ⟨some a,cap,by simp[l1],by simpa[l1] using hlc,by unfold maxLen at hcm; omega,by simpa[l1] using hlim,by simp,?_⟩,by simp[Value.oneCell']⟩
   by_cases h0:len=0
   ·left
    have:l=[]:=List.length_eq_zero_iff.1 (by omega)
    simp[this]
   ·right
    obtain⟨v,h7⟩:=hz (by omega)
    refine⟨a,rfl,hspot (by omega),?_,?_⟩
    ·show a.block<W.heap.size
     unfold World.cell? at h7
     split at h7
     ·rename_i hb'
      exact (Array.getElem?_eq_some_iff.1 hb').1
     ·cases h7
    ·rw[Nat.sub_self,Nat.zero_mul,Nat.add_zero] at l2
     exact l2
  ·cases hr
theorem rd_span (T:Tys P) (k:Nat):RdOk enc P W k 106 encSpan:=by
 cases k with
 | zero=>exact rd_zero
 | succ k =>
   intro cs d ps h hw
   obtain⟨hl,hf⟩:=rd_struct T.sp h hw
   rw[T.c106] at hl
   match cs,hl with
   | [c0,c1],_ =>
     obtain⟨d0,p0,f0,w0⟩:=hf 0 9 0 rfl
     obtain⟨d1,p1,f1,w1⟩:=hf 1 9 1 rfl
     rw[T.c 9 (by decide)] at f0 f1
     obtain⟨a,a1,a2⟩:=rd_str T.s k _ _ _ f0 w0
     obtain⟨b,b1,b2⟩:=rd_str T.s k _ _ _ f1 w1
     refine⟨⟨a,b⟩,rep_app (xs:=encStr a) (vs:=[c0]) a1 (ys:=encStr b) (us:=[c1]) b1,fun u hu=>?_⟩
     simp only[List.mem_cons,List.not_mem_nil,or_false] at hu
     rcases hu with rfl|rfl
     ·exact a2 _ (by simp)
     ·exact b2 _ (by simp)
theorem rd_arr (T:Tys P) (k:Nat) (h30:RdOk enc P W k 30 encTy):RdOk enc P W (k+1) 98 encArr:=by
 intro cs d ps h hw
 obtain⟨hl,hf⟩:=rd_struct T.ar h hw
 rw[T.c98] at hl
 obtain⟨d0,p0,f0,w0⟩:=hf 0 30 0 rfl
 obtain⟨d1,p1,f1,w1⟩:=hf 1 3 9 rfl
 obtain⟨d2,p2,f2,w2⟩:=hf 2 3 10 rfl
 rw[T.c30] at f0
 rw[T.c 3 (by decide)] at f1 f2
 obtain⟨t,a1,a2⟩:=h30 _ _ _ f0 w0
 obtain⟨lo,b1,b2⟩:=rd_int T.i k _ _ _ f1 w1
 obtain⟨hi,e1,e2⟩:=rd_int T.i k _ _ _ f2 w2
 have e:cs=(cs.drop 0).take 9++((cs.drop 9).take 1++(cs.drop 10).take 1):=by
  match cs,hl with
  | [c0,c1,c2,c3,c4,c5,c6,c7,c8,c9,c10],_=>rfl
 refine⟨.mk t lo hi,?_,fun u hu=>?_⟩
 ·rw[e]
  exact rep_app a1 (rep_app (xs:=[.int .i64 lo]) b1 (ys:=[.int .i64 hi]) e1)
 ·rw[e] at hu
  simp only[List.mem_append] at hu
  rcases hu with hu|hu|hu
  ·exact a2 _ hu
  ·exact b2 _ hu
  ·exact e2 _ hu
theorem rd_obj (T:Tys P) (k:Nat) (h30:∀ j,j≤k→RdOk enc P W j 30 encTy):RdOk enc P W (k+1) 57 encObj:=by
 intro cs d ps h hw
 obtain⟨hl,hf⟩:=rd_struct T.ob h hw
 rw[T.c57] at hl
 cases k with
 | zero =>
   obtain⟨d0,p0,f0,w0⟩:=hf 0 26 0 rfl
   simp[DataW.trod] at f0
 | succ k =>
   obtain⟨d0,p0,f0,w0⟩:=hf 0 26 0 rfl
   obtain⟨d1,p1,f1,w1⟩:=hf 1 54 1 rfl
   obtain⟨d2,p2,f2,w2⟩:=hf 2 55 2 rfl
   obtain⟨d3,p3,f3,w3⟩:=hf 3 30 3 rfl
   rw[T.c 26 (by decide)] at f0
   rw[T.c 54 (by decide)] at f1
   rw[T.c 55 (by decide)] at f2
   rw[T.c30] at f3
   obtain⟨ns,a1,a2⟩:=rd_slice T.l26 (T.c 9 (by decide)) (by omega) (T.bytes 9 (by decide)) (rd_str T.s k) _ _ _ f0 w0
   obtain⟨fs,b1,b2⟩:=rd_slice T.l54 T.c30 (by omega) (T.bytes 30 (by decide)) (h30 k (by omega)) _ _ _ f1 w1
   obtain⟨ms,e1,e2⟩:=rd_slice T.l55 (T.c 4 (by decide)) (by omega) (T.bytes 4 (by decide)) (rd_bool T.b k) _ _ _ f2 w2
   obtain⟨r,g1,g2⟩:=h30 _ (Nat.le_refl _) _ _ _ f3 w3
   have e:cs=(cs.drop 0).take 1++((cs.drop 1).take 1++((cs.drop 2).take 1++(cs.drop 3).take 9)):=by
    match cs,hl with
    | [c0,c1,c2,c3,c4,c5,c6,c7,c8,c9,c10,c11],_=>rfl
   refine⟨.mk ns fs ms r,?_,fun u hu=>?_⟩
   ·rw[e]
    simp only[encObj,encTys_map]
    exact rep_app (xs:=[_]) a1 (rep_app (xs:=[_]) b1 (rep_app (xs:=[_]) e1 g1))
   ·rw[e] at hu
    simp only[List.mem_append] at hu
    rcases hu with hu|hu|hu|hu
    ·exact a2 _ hu
    ·exact b2 _ hu
    ·exact e2 _ hu
    ·exact g2 _ hu
theorem rd_ty (T:Tys P):∀ n k:Nat,k≤n→RdOk enc P W k 30 encTy:=by
 intro n
 induction n with
 | zero =>
   intro k hk
   obtain rfl:k=0:=by omega
   exact rd_zero
 | succ n ih =>
   intro k hk
   match k with
   | 0=>exact rd_zero
   | 1 =>
     intro cs d ps h hw
     obtain⟨hl,hf⟩:=rd_struct T.ty h hw
     obtain⟨d0,p0,f0,w0⟩:=hf 0 4 0 rfl
     simp[DataW.trod] at f0
   | k+2 =>
     intro cs d ps h hw
     obtain⟨hl,hf⟩:=rd_struct T.ty h hw
     rw[T.c30] at hl
     obtain⟨d0,p0,f0,w0⟩:=hf 0 4 0 rfl
     obtain⟨d1,p1,f1,w1⟩:=hf 1 4 1 rfl
     obtain⟨d2,p2,f2,w2⟩:=hf 2 4 2 rfl
     obtain⟨d3,p3,f3,w3⟩:=hf 3 4 3 rfl
     obtain⟨d4,p4,f4,w4⟩:=hf 4 25 4 rfl
     obtain⟨d5,p5,f5,w5⟩:=hf 5 4 5 rfl
     obtain⟨d6,p6,f6,w6⟩:=hf 6 26 6 rfl
     obtain⟨d7,p7,f7,w7⟩:=hf 7 27 7 rfl
     obtain⟨d8,p8,f8,w8⟩:=hf 8 28 8 rfl
     rw[T.c 4 (by decide)] at f0 f1 f2 f3 f5
     rw[T.c 25 (by decide)] at f4
     rw[T.c 26 (by decide)] at f6
     rw[T.c 27 (by decide)] at f7
     rw[T.c 28 (by decide)] at f8
     obtain⟨a0,r0,o0⟩:=rd_bool T.b (k+1) _ _ _ f0 w0
     obtain⟨a1,r1,o1⟩:=rd_bool T.b (k+1) _ _ _ f1 w1
     obtain⟨a2,r2,o2⟩:=rd_bool T.b (k+1) _ _ _ f2 w2
     obtain⟨a3,r3,o3⟩:=rd_bool T.b (k+1) _ _ _ f3 w3
     obtain⟨a4,r4,o4⟩:=rd_slice T.l25 T.c106 (by omega) (T.bytes 106 (by decide)) (rd_span T k) _ _ _ f4 w4
     obtain⟨a5,r5,o5⟩:=rd_bool T.b (k+1) _ _ _ f5 w5
     obtain⟨a6,r6,o6⟩:=rd_slice T.l26 (T.c 9 (by decide)) (by omega) (T.bytes 9 (by decide)) (rd_str T.s k) _ _ _ f6 w6
     have hA:RdOk enc P W k 98 encArr:=by
      cases k with
      | zero=>exact rd_zero
      | succ k=>exact rd_arr T k (ih k (by omega))
     have hO:RdOk enc P W k 57 encObj:=by
      cases k with
      | zero=>exact rd_zero
      | succ k=>exact rd_obj T k fun j hj=>ih j (by omega)
     obtain⟨a7,r7,o7⟩:=rd_slice T.l27 T.c98 (by omega) (T.bytes 98 (by decide)) hA _ _ _ f7 w7
     obtain⟨a8,r8,o8⟩:=rd_slice T.l28 T.c57 (by omega) (T.bytes 57 (by decide)) hO _ _ _ f8 w8
     have e:cs=(cs.drop 0).take 1++((cs.drop 1).take 1++((cs.drop 2).take 1++((cs.drop 3).take 1++((cs.drop 4).take 1++((cs.drop 5).take 1++((cs.drop 6).take 1++((cs.drop 7).take 1++(cs.drop 8).take 1))))))):=by
      match cs,hl with
      | [c0,c1,c2,c3,c4,c5,c6,c7,c8],_=>rfl
     refine⟨.mk a0 a1 a2 a3 a4 a5 a6 a7 a8,?_,fun u hu=>?_⟩
     ·rw[e]
      simp only[encTy,encArrs_map,encObjs_map]
      exact rep_app (xs:=[_]) r0 (rep_app (xs:=[_]) r1 (rep_app (xs:=[_]) r2 (rep_app (xs:=[_]) r3 (rep_app (xs:=[_]) r4 (rep_app (xs:=[_]) r5 (rep_app (xs:=[_]) r6 (rep_app (xs:=[_]) r7 r8)))))))
     ·rw[e] at hu
      simp only[List.mem_append] at hu
      rcases hu with hu|hu|hu|hu|hu|hu|hu|hu|hu
      ·exact o0 _ hu
      ·exact o1 _ hu
      ·exact o2 _ hu
      ·exact o3 _ hu
      ·exact o4 _ hu
      ·exact o5 _ hu
      ·exact o6 _ hu
      ·exact o7 _ hu
      ·exact o8 _ hu
theorem read_ty (T:Tys P) {v:Value} {d:DataW H} {ps:List MemPlace} {vs:Array Value} (hv:v=.agg vs) (h:DataW.Trod enc P W 0 (fun _=>true) true 30 v d ps) (hw:wOk P 30 d):∃ t:Go.Tidy.Ty,RepV W (dctx (allF W)) (.agg (cT t)) v:=by
 obtain⟨fuel,h⟩:=h
 subst hv
 obtain⟨t,h1,h2⟩:=rd_ty T fuel fuel (Nat.le_refl _) _ _ _ h hw
 rw[encTy_eq] at h1
 exact⟨t,vs,rfl,h1,h2⟩
end
end Go.Proofs.YtfilonnphgnplaaGreatDoor.Pv
namespace Go.Proofs.YtfilonnphgnplaaGreatDoor
open Go Go.ChangeShapes Go.WideShapes Go.ChangeAt Go.RowKit
theorem own:ownKnob Tryz.prog.godebug=none:=by kernel_rfl
theorem laidOut:laidOutB Tryz.prog=true:=by kernel_rfl
theorem tysOk:Pv.Tys Tryz.prog where
 b:=by kernel_rfl
 i:=by kernel_rfl
 s:=by kernel_rfl
 l25:=by kernel_rfl
 l26:=by kernel_rfl
 l27:=by kernel_rfl
 l28:=by kernel_rfl
 l54:=by kernel_rfl
 l55:=by kernel_rfl
 c:=by
   have h:([4,3,9,25,26,27,28,54,55].all fun e=>Tryz.prog.cellsOf e == 1)=true:=by kernel_rfl
   intro e he
   simpa using List.all_eq_true.1 h e he
 c30:=by kernel_rfl
 c57:=by kernel_rfl
 c98:=by kernel_rfl
 c106:=by kernel_rfl
 ty:=by kernel_rfl
 ob:=by kernel_rfl
 ar:=by kernel_rfl
 sp:=by kernel_rfl
 bytes:=by
  have h:([106,9,98,57,30,4].all fun e=>decide (1≤Tryz.prog.bytesOf e))=true:=by kernel_rfl
  intro e he
  simpa using List.all_eq_true.1 h e he
theorem u8x:U8Extra Tryz.prog Tryz.laysValid_ren:=⟨by kernel_rfl,by kernel_rfl,by kernel_rfl,by kernel_rfl,by kernel_rfl,by kernel_rfl,by kernel_rfl⟩
theorem gtab_all:((List.range Tryz.prog.globals.size).all fun g=>match Pv.gTab Tryz.prog g with
 | none=>true
 | some cs=>(g == Tryz.laysValid_ren.g 3&&cs == Pv.utf8First)||(g == Tryz.laysValid_ren.g 4&&cs == Pv.utf8Accept))=true:=by kernel_rfl
theorem gtab_cases {g:Nat} {cs:List Nat} (h:Pv.gTab Tryz.prog g=some cs):(g=Tryz.laysValid_ren.g 3∧cs=Pv.utf8First)∨(g=Tryz.laysValid_ren.g 4∧cs=Pv.utf8Accept):=by
 have hg:g<Tryz.prog.globals.size:=by
  have h2:=h
  unfold Pv.gTab at h2
  split at h2
  ·rename_i gl hgl
   exact (Array.getElem?_eq_some_iff.1 hgl).1
  ·cases h2
 have h3:=List.all_eq_true.1 gtab_all g (List.mem_range.2 hg)
 rw[h] at h3
 simp only[Bool.or_eq_true,Bool.and_eq_true,beq_iff_eq] at h3
 exact h3
theorem cell_lt {w:World} {g j:Nat} {v:Value} (h:w.cell? ⟨g,j,none⟩=some v):g<w.heap.size:=by
 unfold World.cell? at h
 split at h
 ·rename_i hb
  exact (Array.getElem?_eq_some_iff.1 hb).1
 ·cases h
theorem first_le:∀ c:Fin 256,Lib.firstT c.1≤255:=by decide +kernel
theorem accept_le:∀ i:Fin 16,Lib.accLo i.1≤255∧Lib.accHi i.1≤255:=by decide +kernel
theorem first_len:Pv.utf8First.length=256:=by kernel_rfl
theorem accept_len:Pv.utf8Accept.length=32:=by kernel_rfl
theorem gok_of {w:World} (hT:Lib.Utf8Tabs (Tryz.laysValid_ren.g 3) (Tryz.laysValid_ren.g 4) w):Pv.GOk Tryz.prog w (Pv.allF w):=by
 intro g cs hg
 rcases gtab_cases hg with ⟨e1,e2⟩|⟨e1,e2⟩
 ·have h0:=hT.1 0 (by omega)
  rw[← e1] at h0
  refine⟨cell_lt h0,cell_lt h0,fun j n hj=>?_⟩
  rw[e2] at hj
  have hl:j<256:=by
   have:=(List.getElem?_eq_some_iff.1 hj).1
   rw[first_len] at this; exact this
  have e:=Pv.first_at ⟨j,hl⟩
  rw[hj] at e
  have e:=Option.some.inj e
  rw[e,e1]
  exact⟨hT.1 j hl,first_le ⟨j,hl⟩⟩
 ·have h0:=(hT.2 0 (by omega)).1
  rw[← e1] at h0
  refine⟨cell_lt h0,cell_lt h0,fun j n hj=>?_⟩
  rw[e2] at hj
  have hl:j<32:=by
   have:=(List.getElem?_eq_some_iff.1 hj).1
   rw[accept_len] at this; exact this
  have hi:j / 2<16:=by omega
  rw[e1]
  by_cases hp:j % 2=0
  ·have ej:j=2*(j / 2):=by omega
   have e:=(Pv.accept_at ⟨j / 2,hi⟩).1
   simp only at e
   rw[← ej,hj] at e
   have e:=Option.some.inj e
   have h1:=(hT.2 (j / 2) hi).1
   rw[← ej] at h1
   rw[e]
   exact⟨h1,(accept_le ⟨j / 2,hi⟩).1⟩
  ·have ej:j=2*(j / 2)+1:=by omega
   have e:=(Pv.accept_at ⟨j / 2,hi⟩).2
   simp only at e
   rw[← ej,hj] at e
   have e:=Option.some.inj e
   have h1:=(hT.2 (j / 2) hi).2
   rw[← ej] at h1
   rw[e]
   exact⟨h1,(accept_le ⟨j / 2,hi⟩).2⟩
end Go.Proofs.YtfilonnphgnplaaGreatDoor
namespace Go.Tidy
open Go
inductive Val where
 | mk (kind:Int) (num text:S) (items:List Val) (keys:List S)
namespace Val
def kind:Val→Int|.mk a _ _ _ _=>a
def num:Val→S|.mk _ a _ _ _=>a
def text:Val→S|.mk _ _ a _ _=>a
def items:Val→List Val|.mk _ _ _ a _=>a
def keys:Val→List S|.mk _ _ _ _ a=>a
end Val
def getV (v:Val) (s:S):Option Val :=
 if v.kind=6 then (match v.keys.findIdx? (sEq · s) with|some i=>v.items[i]?|none=>none) else none
def inSpanB (n:S) (s:Span):Bool:=(sEmp s.low||!(numCmp n s.low).isLT)&&(sEmp s.high||(numCmp n s.high).isLE)
mutual
def inT:Ty→Val→Bool
 | .mk a b c d ns e ts az os,v =>
   a||(if v.kind=0 then b else if v.kind=1 then c else if v.kind=2 then d
     else if v.kind=3 then (match ns with|n::_=>inSpanB v.num n|[]=>false)
     else if v.kind=4 then e||ts.any (sEq · v.text)
     else if v.kind=5 then (match az with|x::_=>inA x v|[]=>false)
     else inOs os v)
def inA:Arr→Val→Bool
 | .mk t lo hi,v=>!(decide ((v.items.length:Int)<lo)||(decide (0≤hi)&&decide (hi<(v.items.length:Int))))&&v.items.all (inT t)
def inOs:List Ob→Val→Bool
 | [],_=>false
 | o::l,v=>inO o v||inOs l v
def inO:Ob→Val→Bool
 | .mk ns fs ms r,v =>
   ((ns.zip ((inTs fs).zip ms)).all fun p=>match getV v p.1 with|some x=>p.2.1 x|none=>!p.2.2) &&
     (v.keys.zip v.items).all fun p=>ns.any (sEq · p.1)||inT r p.2
def inTs:List Ty→List (Val→Bool)
 | []=>[]
 | t::l=>(fun v=>inT t v)::inTs l
end
theorem inOs_any (v:Val):∀ l:List Ob,inOs l v=l.any (inO · v)
 | []=>rfl
 | o::l=>by simp[inOs,inOs_any v l]
theorem inTs_map:∀ l:List Ty,inTs l=l.map inT
 | []=>rfl
 | t::l=>by simp[inTs,inTs_map l]
end Go.Tidy
set_option maxRecDepth 100000
namespace Go.Proofs.YtfilonnphgnplaaGreatDoor.Pv
open Go Go.Tidy
theorem c_ref09_InSpan (n:S) (s:Span) (hn:numB n=true) (h1:boundB s.low=true) (h2:boundB s.high=true):Ret prog M.F_ref09_InSpan [.str n,.agg (encSpan s)] (.bool (inSpanB n s)):=by
 refine Ret.go hmix h_ref09_InSpan (by simp) fun hb w0 F0 hG=>?_
 unfold inSpanB
 simp
 intro v
 cases e1:sEmp s.low
 ·simp[e1]
  refine XCall.ret (c_ref03_Numbers _ _ hn (boundB_num h1 e1)) ?_
  cases e2:numCmp n s.low
  ·simp[oInt,e2]
  ·simp[oInt,e2]
   cases e3:sEmp s.high
   ·simp[e1,e3]
    refine XCall.ret (c_ref03_Numbers _ _ hn (boundB_num h2 e3)) ?_
    cases e4:numCmp n s.high<;>simp[oInt,e4]
   ·simp[e1,e3]
  ·simp[oInt,e2]
   cases e3:sEmp s.high
   ·simp[e1,e3]
    refine XCall.ret (c_ref03_Numbers _ _ hn (boundB_num h2 e3)) ?_
    cases e4:numCmp n s.high<;>simp[oInt,e4]
   ·simp[e1,e3]
 ·simp[e1]
  cases e3:sEmp s.high
  ·simp[e1,e3]
   refine XCall.ret (c_ref03_Numbers _ _ hn (boundB_num h2 e3)) ?_
   cases e4:numCmp n s.high<;>simp[oInt,e4]
  ·simp[e1,e3]
end Go.Proofs.YtfilonnphgnplaaGreatDoor.Pv
set_option maxRecDepth 100000
namespace Go.Proofs.YtfilonnphgnplaaGreatDoor.Pv
open Go Go.Tidy
mutual
def encVal:Val→List PV
 | .mk k n t is ks=>[.int .i64 k,.str n,.str t,.vec 5 false (encVals is),.vec 1 false (ks.map encStr)]
def encVals:List Val→List (List PV)
 | []=>[]
 | v::l=>encVal v::encVals l
end
theorem encVals_map (l:List Val):encVals l=l.map encVal:=by induction l with|nil=>rfl|cons a l ih=>simp[encVals,ih]
abbrev cV (v:Val):List PV:=[.int .i64 v.kind,.str v.num,.str v.text,.vec 5 false (v.items.map encVal),.vec 1 false (v.keys.map encStr)]
theorem encVal_eq (v:Val):encVal v=cV v:=by
 obtain⟨k,n,t,is,ks⟩:=v
 simp[encVal,encVals_map,cV,Val.kind,Val.num,Val.text,Val.items,Val.keys]
attribute [simp] encVal_eq
def vZero:Val:=.mk 0 ByteArray.empty ByteArray.empty [] []
theorem vZero_cells:(.agg (cV vZero):PV)=.agg [.int .i64 0,.str ⟨#[]⟩,.str ⟨#[]⟩,.vec 5 false [],.vec 1 false []]:=rfl
theorem getV_at {v:Val} {s:S} {k:Nat} (h6:v.kind=6) (hk:k<v.keys.length) (hj:AllTo (fun u=>!sEq u s) v.keys k) (he:sEq v.keys[k] s=true):getV v s=v.items[k]? := by
 unfold getV
 rw[if_pos h6]
 have:v.keys.findIdx? (sEq · s)=some k:=by
  rw[List.findIdx?_eq_some_iff_getElem]
  refine⟨hk,he,fun j hjk=>?_⟩
  have:=hj j (by omega) hjk
  simpa using this
 rw[this]
theorem c_ref03_Get (v:Val) (s:S):Ret prog M.F_ref03_Get [.agg (cV v),.str s] (.tup [.agg (cV ((getV v s).getD vZero)),.bool (getV v s).isSome]):=by
 refine Ret.go hmix h_ref03_Get (by simp) fun hb w0 F0 hG=>?_
 simp only[bndL,bndV,List.length_map,LIM,and_true] at hb
 by_cases h6:v.kind=6
 ·obtain⟨J,hJ⟩ : ∃ J:Nat→Unit→Prop,J=fun k _=>AllTo (fun u=>!sEq u s) v.keys k:=⟨_,rfl⟩
  generalize hR:getV v s=R
  simp[h6]
  intro v1 v2
  refine XLoop.cnt hmix v.keys.length (fun k _=>⟨[(6,.int .i64 k),(5,.bool false),(4,.ptr (4,v2) 5 0 0),(2,.ptr (2,v1) 5 0 0),(1,.str s)],[((4,v2),some ⟨5,[M.z3],false,true⟩),((2,v1),some ⟨5,[cV v],false,true⟩)]⟩) J () (by rw[hJ]; exact .zero) (by simp[h6]) fun k _ hk hj=>?_
  have hw:=wrap64 (n:=(k:Int)+1) (by omega) (by omega)
  have hj' : AllTo (fun u=>!sEq u s) v.keys k:=by rw[hJ] at hj; exact hj
  by_cases g1:k<v.keys.length
  ·cases e1:sEq v.keys[k] s
   ·simp[g1,e1,hw]
    exact⟨(),by rw[hJ]; exact hj'.step g1 (by simp[e1])⟩
   ·have hg:=getV_at h6 g1 hj' e1
    rw[hR] at hg
    by_cases g2:k<v.items.length
    ·rw[List.getElem?_eq_getElem g2] at hg
     simp[g1,e1,g2,hg]
    ·rw[List.getElem?_eq_none (by omega)] at hg
     rw[hg,Option.getD_none,vZero_cells]
     simp[g1,e1,g2]
  ·have hg:R=none:=by
      rw[← hR]
      unfold getV
      rw[if_pos h6]
      have:v.keys.findIdx? (sEq · s)=none:=by
       rw[List.findIdx?_eq_none_iff]
       intro x hx
       have:=hj'.all g1
       rw[List.all_eq_true] at this
       simpa using this x hx
      rw[this]
   rw[hg,Option.getD_none,vZero_cells]
   simp[g1]
 ·have:getV v s=none:=by unfold getV; rw[if_neg h6]
  rw[this,Option.getD_none,vZero_cells]
  simp[h6]
end Go.Proofs.YtfilonnphgnplaaGreatDoor.Pv
namespace Go.Proofs.YtfilonnphgnplaaGreatDoor.Pv
open Go Go.Tidy Go.RowKit
structure TysV (P:Program):Prop where
 l36:P.underlying 36=some (.slice 38)
 c36:P.cellsOf 36=1
 c38:P.cellsOf 38=5
 va:flds P 38=some [(3,0),(9,1),(9,2),(36,3),(26,4)]
 by38:1≤P.bytesOf 38
section
variable {H:Type} {enc:TypeId × Value→H} {P:Program} {W:World}
theorem rd_val (T:Tys P) (V:TysV P):∀ n k:Nat,k≤n→RdOk enc P W k 38 encVal:=by
 intro n
 induction n with
 | zero =>
   intro k hk
   obtain rfl:k=0:=by omega
   exact rd_zero
 | succ n ih =>
   intro k hk
   match k with
   | 0=>exact rd_zero
   | 1 =>
     intro cs d ps h hw
     obtain⟨hl,hf⟩:=rd_struct V.va h hw
     obtain⟨d0,p0,f0,w0⟩:=hf 0 3 0 rfl
     simp[DataW.trod] at f0
   | k+2 =>
     intro cs d ps h hw
     obtain⟨hl,hf⟩:=rd_struct V.va h hw
     rw[V.c38] at hl
     obtain⟨d0,p0,f0,w0⟩:=hf 0 3 0 rfl
     obtain⟨d1,p1,f1,w1⟩:=hf 1 9 1 rfl
     obtain⟨d2,p2,f2,w2⟩:=hf 2 9 2 rfl
     obtain⟨d3,p3,f3,w3⟩:=hf 3 36 3 rfl
     obtain⟨d4,p4,f4,w4⟩:=hf 4 26 4 rfl
     rw[T.c 3 (by decide)] at f0
     rw[T.c 9 (by decide)] at f1 f2
     rw[V.c36] at f3
     rw[T.c 26 (by decide)] at f4
     obtain⟨a0,r0,o0⟩:=rd_int T.i (k+1) _ _ _ f0 w0
     obtain⟨a1,r1,o1⟩:=rd_str T.s (k+1) _ _ _ f1 w1
     obtain⟨a2,r2,o2⟩:=rd_str T.s (k+1) _ _ _ f2 w2
     obtain⟨a3,r3,o3⟩:=rd_slice V.l36 V.c38 (by omega) V.by38 (ih k (by omega)) _ _ _ f3 w3
     obtain⟨a4,r4,o4⟩:=rd_slice T.l26 (T.c 9 (by decide)) (by omega) (T.bytes 9 (by decide)) (rd_str T.s k) _ _ _ f4 w4
     have e:cs=(cs.drop 0).take 1++((cs.drop 1).take 1++((cs.drop 2).take 1++((cs.drop 3).take 1++(cs.drop 4).take 1))):=by
      match cs,hl with
      | [c0,c1,c2,c3,c4],_=>rfl
     refine⟨.mk a0 a1 a2 a3 a4,?_,fun u hu=>?_⟩
     ·rw[e]
      simp only[encVal,encVals_map]
      exact rep_app (xs:=[_]) r0 (rep_app (xs:=[_]) r1 (rep_app (xs:=[_]) r2 (rep_app (xs:=[_]) r3 r4)))
     ·rw[e] at hu
      simp only[List.mem_append] at hu
      rcases hu with hu|hu|hu|hu|hu
      ·exact o0 _ hu
      ·exact o1 _ hu
      ·exact o2 _ hu
      ·exact o3 _ hu
      ·exact o4 _ hu
theorem read_val (T:Tys P) (V:TysV P) {v:Value} {d:DataW H} {ps:List MemPlace} {vs:Array Value} (hv:v=.agg vs) (h:DataW.Trod enc P W 0 (fun _=>true) true 38 v d ps) (hw:wOk P 38 d):∃ t:Go.Tidy.Val,RepV W (dctx (allF W)) (.agg (cV t)) v:=by
 obtain⟨fuel,h⟩:=h
 subst hv
 obtain⟨t,h1,h2⟩:=rd_val T V fuel fuel (Nat.le_refl _) _ _ _ h hw
 rw[encVal_eq] at h1
 exact⟨t,vs,rfl,h1,h2⟩
end
end Go.Proofs.YtfilonnphgnplaaGreatDoor.Pv
namespace Go.Proofs.YtfilonnphgnplaaGreatDoor
open Go Go.ChangeShapes Go.WideShapes Go.ChangeAt Go.RowKit
theorem tysVOk:Pv.TysV Tryz.prog where
 l36:=by kernel_rfl
 c36:=by kernel_rfl
 c38:=by kernel_rfl
 va:=by kernel_rfl
 by38:=of_decide_eq_true (by kernel_rfl)
theorem agg_of {t:TypeId} {fl:List (TypeId × Nat)} {W:World} {base:Nat} {v:Value} (ht:Pv.flds Tryz.prog t=some fl) (hv:Value.okWide Tryz.prog W .any base t v):∃ cs,v=.agg cs:=by
 unfold Value.okWide at hv
 have hs:∃ fs,Tryz.prog.underlying t=some (.struct fs):=by
  unfold Pv.flds at ht
  split at ht
  ·rename_i fs hfs
   exact⟨fs,hfs⟩
  ·cases ht
 obtain⟨fs,hs⟩:=hs
 rw[hs] at hv
 obtain⟨cs,hc,_⟩:=hv
 exact⟨cs,hc⟩
end Go.Proofs.YtfilonnphgnplaaGreatDoor
set_option maxRecDepth 100000
namespace Go.Proofs.YtfilonnphgnplaaGreatDoor.Pv
open Go Go.Tidy
def inLB (a:Arr) (l:List Val):Bool:=!(decide ((l.length:Int)<a.min)||(decide (0≤a.max)&&decide (a.max<(l.length:Int))))&&l.all (inT a.item)
set_option maxHeartbeats 4000000 in
theorem inArr_step (l:List Val) (a:Arr) (hI:∀ v∈l,Ret prog M.F_ref09_In [.agg (cV v),.agg (cT a.item)] (.bool (inT a.item v))):Ret prog M.F_ref09_inArr [.vec 5 false (l.map encVal),.agg (cA a)] (.bool (inLB a l)):=by
 refine Ret.go hmix h_ref09_inArr (by simp) fun hb w0 F0 hG=>?_
 simp only[bndL,bndV,List.length_map,LIM,and_true] at hb
 generalize hB:inLB a l=B
 have tail:∀ v3:Nat,¬ (l.length:Int)<a.min→¬ (0≤a.max∧a.max<(l.length:Int))→B=l.all (inT a.item):=fun _ h1 h2=>by
  rw[← hB]
  unfold inLB
  by_cases g:0≤a.max
  ·have:¬ a.max<(l.length:Int):=fun h=>h2 ⟨g,h⟩
   simp[h1,g,this]
  ·simp[h1,g]
 obtain⟨J,hJ⟩ : ∃ J:Nat→Unit→Prop,J=fun k _=>AllTo (inT a.item) l k:=⟨_,rfl⟩
 by_cases g1:(l.length:Int)<a.min
 ·have:B=false:=by rw[← hB]; unfold inLB; simp[g1]
  simp[g1,this]
 by_cases g2:0≤a.max
 ·by_cases g3:a.max<(l.length:Int)
  ·have:B=false:=by rw[← hB]; unfold inLB; simp[g1,g2,g3]
   simp[g1,g2,g3,this]
  ·have hBt:=tail 0 g1 (fun h=>g3 h.2)
   simp[g1,g2,g3]
   intro v3
   refine XLoop.cnt hmix l.length (fun k _=>⟨[(5,.int .i64 k),(4,.bool false),(3,.ptr (3,v3) 11 0 0),(0,.vec 5 false (l.map encVal))],[((3,v3),some ⟨11,[cA a],false,true⟩)]⟩) J () (by rw[hJ]; exact .zero) (by simp) fun k _ hk hj=>?_
   have hw:=wrap64 (n:=(k:Int)+1) (by omega) (by omega)
   have hj' : AllTo (inT a.item) l k:=by rw[hJ] at hj; exact hj
   by_cases q1:k<l.length
   ·have c1:=hI _ (List.getElem_mem q1)
    cases e1:inT a.item l[k]
    ·have hBf:B=false:=by
        rw[hBt,List.all_eq_false]
        exact⟨l[k],List.getElem_mem q1,by simp[e1]⟩
     rw[e1] at c1
     simp[q1]
     intro v4
     refine XDCall.ret (by simpa using c1) ?_
     simp[hBf]
    ·rw[e1] at c1
     have hJn:J (k+1) ():=by rw[hJ]; exact hj'.step q1 e1
     simp[q1]
     intro v4
     refine XDCall.ret (by simpa using c1) ?_
     simp[q1,hw]
     exact⟨(),hJn⟩
   ·have hBt' : B=true:=by rw[hBt]; exact hj'.all q1
    simp[q1,hBt']
 ·have hBt:=tail 0 g1 (fun h=>g2 h.1)
  simp[g1,g2]
  intro v3
  refine XLoop.cnt hmix l.length (fun k _=>⟨[(5,.int .i64 k),(4,.bool false),(3,.ptr (3,v3) 11 0 0),(0,.vec 5 false (l.map encVal))],[((3,v3),some ⟨11,[cA a],false,true⟩)]⟩) J () (by rw[hJ]; exact .zero) (by simp) fun k _ hk hj=>?_
  have hw:=wrap64 (n:=(k:Int)+1) (by omega) (by omega)
  have hj' : AllTo (inT a.item) l k:=by rw[hJ] at hj; exact hj
  by_cases q1:k<l.length
  ·have c1:=hI _ (List.getElem_mem q1)
   cases e1:inT a.item l[k]
   ·have hBf:B=false:=by
       rw[hBt,List.all_eq_false]
       exact⟨l[k],List.getElem_mem q1,by simp[e1]⟩
    rw[e1] at c1
    simp[q1]
    intro v4
    refine XDCall.ret (by simpa using c1) ?_
    simp[hBf]
   ·rw[e1] at c1
    have hJn:J (k+1) ():=by rw[hJ]; exact hj'.step q1 e1
    simp[q1]
    intro v4
    refine XDCall.ret (by simpa using c1) ?_
    simp[q1,hw]
    exact⟨(),hJn⟩
  ·have hBt' : B=true:=by rw[hBt]; exact hj'.all q1
   simp[q1,hBt']
end Go.Proofs.YtfilonnphgnplaaGreatDoor.Pv
set_option maxRecDepth 100000
namespace Go.Proofs.YtfilonnphgnplaaGreatDoor.Pv
open Go Go.Tidy
def inF (v:Val) (o:Ob) (k:Nat):Bool:=match o.names[k]?,o.fields[k]?,o.must[k]? with
 | some n,some f,some m=>(match getV v n with|some x=>inT f x|none=>!m)
 | _,_,_=>false
theorem getV_mem {v:Val} {s:S} {x:Val} (h:getV v s=some x):x∈v.items:=by
 unfold getV at h
 split at h
 ·split at h
  ·exact List.mem_of_getElem? h
  ·cases h
 ·cases h
set_option maxHeartbeats 4000000 in
theorem inObj_step (v:Val) (o:Ob) (hf:o.fields.length=o.names.length) (hm:o.must.length=o.names.length) (hk:v.keys.length=v.items.length)
 (hF:∀ f∈o.fields,∀ x∈v.items,Ret prog M.F_ref09_In [.agg (cV x),.agg (cT f)] (.bool (inT f x)))
 (hR:∀ x∈v.items,Ret prog M.F_ref09_In [.agg (cV x),.agg (cT o.rest)] (.bool (inT o.rest x))) :
 Ret prog M.F_ref09_InObj [.agg (cV v),.agg (cO o)] (.bool (((List.range o.names.length).all (inF v o))&&(List.range v.keys.length).all fun k=>(match v.keys[k]?,v.items[k]? with|some s,some x=>o.names.any (sEq · s)||inT o.rest x|_,_=>false))):=by
 refine Ret.go hmix h_ref09_InObj (by simp) fun hb w0 F0 hG=>?_
 simp only[bndL,bndV,List.length_map,LIM,and_true] at hb
 generalize hB:(((List.range o.names.length).all (inF v o))&&(List.range v.keys.length).all fun k=>(match v.keys[k]?,v.items[k]? with|some s,some x=>o.names.any (sEq · s)||inT o.rest x|_,_=>false))=B
 simp
 intro v2 v3
 obtain⟨J,hJ⟩ : ∃ J:Nat→Unit→Prop,J=fun k _=>∀ j,j<k→inF v o j=true:=⟨_,rfl⟩
 refine XLoop.cnt hmix o.names.length (fun k _=>⟨[(5,.int .i64 k),(4,.bool false),(3,.ptr (3,v3) 12 0 0),(2,.ptr (2,v2) 5 0 0)],[((3,v3),some ⟨12,[cO o],false,true⟩),((2,v2),some ⟨5,[cV v],false,true⟩)]⟩) J () (by rw[hJ]; exact fun j hj=>absurd hj (by omega)) (by simp) fun k _ hkn hj=>?_
 have hw:=wrap64 (n:=(k:Int)+1) (by omega) (by omega)
 have hj' : ∀ j,j<k→inF v o j=true:=by rw[hJ] at hj; exact hj
 by_cases q1:k<o.names.length
 ·have c1:=c_ref03_Get v o.names[k]
  have eF:inF v o k=(match getV v o.names[k] with|some x=>inT (o.fields[k]'(by omega)) x|none=>!(o.must[k]'(by omega))):=by
   unfold inF
   rw[List.getElem?_eq_getElem q1,List.getElem?_eq_getElem (show k<o.fields.length by omega),List.getElem?_eq_getElem (show k<o.must.length by omega)]
  have hBf:inF v o k=false→B=false:=fun h=>by
   rw[← hB,Bool.and_eq_false_iff]
   exact .inl (List.all_eq_false.2 ⟨k,List.mem_range.2 q1,by simp[h]⟩)
  have hJn:inF v o k=true→J (k+1) ():=fun h=>by
   rw[hJ]
   intro j hjk
   by_cases e:j=k
   ·rw[e]; exact h
   ·exact hj' j (by omega)
  have q2:k<o.fields.length:=by omega
  have q3:k<o.must.length:=by omega
  simp[q1]
  intro v4
  refine XDCall.ret (by simpa using c1) ?_
  cases hg:getV v o.names[k] with
  | none =>
    rw[hg] at eF
    rw[Option.getD_none,vZero_cells,Option.isSome_none]
    cases hmk:o.must[k]'q3
    ·have hJ2:=hJn (by rw[eF]; simp[hmk])
     simp[q1,q3,hmk]
     exact⟨⟨(),hJ2⟩,hw⟩
    ·have hB2:=hBf (by rw[eF]; simp[hmk])
     simp[q1,q3,hmk,hB2]
  | some x =>
    rw[hg] at eF
    rw[Option.getD_some,Option.isSome_some]
    have c2:=hF _ (List.getElem_mem q2) x (getV_mem hg)
    cases hi:inT (o.fields[k]'q2) x
    ·have hB2:=hBf (by rw[eF]; exact hi)
     rw[hi] at c2
     simp[q1,q2]
     intro v5
     refine XDCall.ret (by simpa using c2) ?_
     simp[hB2]
    ·have hJ2:=hJn (by rw[eF]; exact hi)
     rw[hi] at c2
     simp[q1,q2]
     intro v5
     refine XDCall.ret (by simpa using c2) ?_
     simp[q1,hw]
     exact⟨(),hJ2⟩
 ·have h1:(List.range o.names.length).all (inF v o)=true:=by
     rw[List.all_eq_true]
     intro j hjm
     exact hj' j (by have:=List.mem_range.1 hjm; omega)
  rw[h1,Bool.true_and] at hB
  simp[q1]
  obtain⟨J2,hJ2⟩ : ∃ J2:Nat→Unit→Prop,J2=fun i _=>∀ j,j<i→(match v.keys[j]?,v.items[j]? with|some s,some x=>o.names.any (sEq · s)||inT o.rest x|_,_=>false)=true:=⟨_,rfl⟩
  refine XLoop.cnt hmix v.keys.length (fun i _=>⟨[(8,.int .i64 i),(4,.bool false),(3,.ptr (3,v3) 12 0 0),(2,.ptr (2,v2) 5 0 0)],[((3,v3),some ⟨12,[cO o],false,true⟩),((2,v2),some ⟨5,[cV v],false,true⟩)]⟩) J2 () (by rw[hJ2]; exact fun j hj=>absurd hj (by omega)) (by simp) fun i _ hin hj2=>?_
  have hw2:=wrap64 (n:=(i:Int)+1) (by omega) (by omega)
  by_cases p1:i<v.keys.length
  ·have p2:i<v.items.length:=by omega
   have cH:=c_ref09_Has o.names v.keys[i]
   have eG:(match v.keys[i]?,v.items[i]? with|some s,some x=>o.names.any (sEq · s)||inT o.rest x|_,_=>false)=(o.names.any (sEq · v.keys[i])||inT o.rest v.items[i]):=by
    rw[List.getElem?_eq_getElem p1,List.getElem?_eq_getElem p2]
   have hj2' : ∀ j,j<i→(match v.keys[j]?,v.items[j]? with|some s,some x=>o.names.any (sEq · s)||inT o.rest x|_,_=>false)=true:=by rw[hJ2] at hj2; exact hj2
   have hJn2:(o.names.any (sEq · v.keys[i])||inT o.rest v.items[i])=true→J2 (i+1) ():=fun h=>by
    rw[hJ2]
    intro j hjk
    by_cases e:j=i
    ·subst e; rw[eG]; exact h
    ·exact hj2' j (by omega)
   have hBf:(o.names.any (sEq · v.keys[i])||inT o.rest v.items[i])=false→B=false:=fun h=>by
    rw[← hB]
    exact List.all_eq_false.2 ⟨i,List.mem_range.2 p1,by rw[eG,h]; simp⟩
   simp[p1]
   intro v4
   refine XDCall.ret (by simpa using cH) ?_
   cases hh:o.names.any (sEq · v.keys[i])
   ·have c2:=hR _ (List.getElem_mem p2)
    cases hi:inT o.rest v.items[i]
    ·have hB2:=hBf (by rw[hh,hi]; rfl)
     rw[hi] at c2
     simp[p1,p2]
     refine XDCall.ret (by simpa using c2) ?_
     simp[hB2]
    ·have hJ3:=hJn2 (by rw[hh,hi]; rfl)
     rw[hi] at c2
     simp[p1,p2]
     refine XDCall.ret (by simpa using c2) ?_
     simp[p1,hw2]
     exact⟨(),hJ3⟩
   ·have hJ3:=hJn2 (by rw[hh]; rfl)
    simp[p1,hw2]
    exact⟨(),hJ3⟩
  ·have hBt:B=true:=by
      rw[← hB,List.all_eq_true]
      intro j hjm
      rw[hJ2] at hj2
      exact hj2 j (by have:=List.mem_range.1 hjm; omega)
   simp[p1,hBt]
end Go.Proofs.YtfilonnphgnplaaGreatDoor.Pv
namespace Go.Tidy
open Go
mutual
def formedV:Val→Bool
 | .mk k n t is ks=>decide (0≤k)&&decide (k≤6)&&(if k=3 then numB n else sEmp n)&&(if k=4 then utfB t else sEmp t)&&(decide (5≤k)||is.isEmpty)&&(decide (6≤k)||ks.isEmpty) &&
   (!decide (k=6)||(decide (ks.length=is.length)&&riseB ks))&&formedVs is
def formedVs:List Val→Bool
 | []=>true
 | v::l=>formedV v&&formedVs l
end
theorem formedVs_all (l:List Val):formedVs l=l.all formedV:=by induction l with|nil=>rfl|cons a l ih=>simp[formedVs,ih]
theorem formedV_spec {v:Val} (h:formedV v=true):0≤v.kind∧v.kind≤6∧(v.kind=3→numB v.num=true)∧(v.kind=6→v.keys.length=v.items.length∧SSs v.keys)∧∀ x∈v.items,formedV x=true:=by
 obtain⟨k,n,t,is,ks⟩:=v
 simp only[formedV,Bool.and_eq_true,formedVs_all,List.all_eq_true,decide_eq_true_eq] at h
 obtain⟨⟨⟨⟨⟨⟨⟨h1,h2⟩,h3⟩,h4⟩,h5⟩,h6⟩,h7⟩,h8⟩:=h
 refine⟨h1,h2,fun e=>by rw[if_pos (show k=3 from e)] at h3; exact h3,fun e=>?_,h8⟩
 have e:k=6:=e
 simp only[e,decide_true,Bool.not_true,Bool.false_or,Bool.and_eq_true,decide_eq_true_eq] at h7
 exact⟨h7.1,(riseB_SS h7.2).1⟩
def headB {α:Type} (f:α→Bool):List α→Bool
 | []=>false
 | a::_=>f a
@[simp] theorem headB_nil {α:Type} (f:α→Bool):headB f []=false:=rfl
@[simp] theorem headB_cons {α:Type} (f:α→Bool) (a:α) (l:List α):headB f (a::l)=f a:=rfl
theorem inT_def (t:Ty) (v:Val):inT t v=(t.all||(if v.kind=0 then t.null else if v.kind=1 then t.fls else if v.kind=2 then t.tru
 else if v.kind=3 then headB (inSpanB v.num) t.nums
 else if v.kind=4 then t.any||t.texts.any (sEq · v.text)
 else if v.kind=5 then headB (inA · v) t.arrays
 else t.objects.any (inO · v))):=by
 obtain⟨a,b,c,d,ns,e,ts,az,os⟩:=t
 cases ns<;>cases az<;>simp[inT,inOs_any,headB]
theorem inA_iff {a:Arr} {v:Val}:inA a v=true↔a.min≤v.items.length∧(a.max<0∨(v.items.length:Int)≤a.max)∧∀ x∈v.items,inT a.item x=true:=by
 obtain⟨t,lo,hi⟩:=a
 simp only[inA,Bool.and_eq_true,Bool.not_eq_true',Bool.or_eq_false_iff,decide_eq_false_iff_not,List.all_eq_true,Bool.and_eq_false_iff,Arr.min_mk,Arr.max_mk,Arr.item_mk]
 constructor
 ·rintro⟨⟨h1,h2⟩,h3⟩
  exact⟨by omega,by omega,h3⟩
 ·rintro⟨h1,h2,h3⟩
  exact⟨⟨by omega,by omega⟩,h3⟩
theorem idx_find {α:Type} {p:α→Bool}:∀ {l:List α} {i:Nat},l.findIdx? p=some i→∃ h:i<l.length,p l[i]=true:=fun {l i} h=>by
 obtain⟨h1,h2,_⟩:=List.findIdx?_eq_some_iff_getElem.1 h
 exact⟨h1,h2⟩
theorem getV_zip {v:Val} {s:S} {x:Val} (h:getV v s=some x):(s,x)∈v.keys.zip v.items:=by
 unfold getV at h
 split at h
 ·split at h
  ·rename_i i hi
   obtain⟨h1,h2⟩:=idx_find hi
   obtain⟨h3,h4⟩:=List.getElem?_eq_some_iff.1 h
   have:(v.keys.zip v.items)[i]'(by simp; omega)=(s,x):=by rw[List.getElem_zip,h4,sEq_iff.1 h2]
   rw[← this]
   exact List.getElem_mem _
  ·cases h
 ·cases h
theorem SSs_inj {l:List S} (h:SSs l) {i j:Nat} (hi:i<l.length) (hj:j<l.length) (e:l[i]=l[j]):i=j:=by
 have key:∀ i j (hi:i<l.length) (hj:j<l.length),i<j→l[i]≠l[j]:=fun i j hi hj hij e=>by
  have:=List.pairwise_iff_getElem.1 h i j hi hj hij
  rw[e,sCmp_eq.2 rfl] at this
  cases this
 rcases Nat.lt_trichotomy i j with h1|h1|h1
 ·exact absurd e (key i j hi hj h1)
 ·exact h1
 ·exact absurd e.symm (key j i hj hi h1)
theorem zip_getV {v:Val} {s:S} {x:Val} (h6:v.kind=6) (hs:SSs v.keys) (h:(s,x)∈v.keys.zip v.items):getV v s=some x:=by
 obtain⟨i,hi,e⟩:=List.getElem_of_mem h
 rw[List.getElem_zip] at e
 cases e
 simp only[List.length_zip] at hi
 unfold getV
 rw[if_pos h6]
 have:v.keys.findIdx? (sEq · v.keys[i])=some i:=by
  rw[List.findIdx?_eq_some_iff_getElem]
  refine⟨by omega,sEq_iff.2 rfl,fun j hj hc=>?_⟩
  have:=SSs_inj hs (by omega) (by omega) (sEq_iff.1 hc)
  omega
 rw[this]
 exact List.getElem?_eq_getElem (by omega)
theorem fieldO_cases (o:Ob) (n:S):(∃ p∈tripO o,p.1=n∧fieldO o n=p.2)∨(fieldO o n=(o.rest,false)∧∀ p∈tripO o,p.1≠n):=by
 unfold fieldO
 split
 ·rename_i p hp
  exact .inl ⟨p,List.mem_of_find?_eq_some hp,sEq_iff.1 (by simpa using List.find?_some hp),rfl⟩
 ·rename_i hp
  exact .inr ⟨rfl,fun p hm e=>by
   have:=List.find?_eq_none.1 hp p hm
   exact this (sEq_iff.2 e)⟩
theorem trip_name {o:Ob} (ho:formedO o=true) {n:S}:n∈o.names↔∃ p∈tripO o,p.1=n:=by
 obtain⟨h1,h2,_⟩:=formedO_spec ho
 have:=(trip_names h1 h2).1
 rw[← this,List.mem_map]
theorem trip_inj {o:Ob} (ho:formedO o=true) {p q:S × Ty × Bool} (hp:p∈tripO o) (hq:q∈tripO o) (e:p.1=q.1):p=q:=by
 obtain⟨h1,h2,_⟩:=formedO_spec ho
 obtain⟨i,hi,rfl⟩:=List.getElem_of_mem hp
 obtain⟨j,hj,rfl⟩:=List.getElem_of_mem hq
 have hs:=formedO_SS ho
 unfold tripO at e hi hj ⊢
 simp only[List.length_zip] at hi hj
 simp only[List.getElem_zip] at e
 have:=SSs_inj hs (by omega) (by omega) e
 subst this
 rfl
theorem fieldO_mem {o:Ob} (ho:formedO o=true) {p:S × Ty × Bool} (hp:p∈tripO o):fieldO o p.1=p.2:=by
 rcases fieldO_cases o p.1 with ⟨q,hq,e1,e2⟩|⟨_,h⟩
 ·rw[e2,trip_inj ho hq hp e1]
 ·exact absurd rfl (h p hp)
theorem fieldO_not {o:Ob} {n:S} (h:n ∉ o.names):fieldO o n=(o.rest,false):=by
 rcases fieldO_cases o n with ⟨q,hq,e1,e2⟩|⟨h,_⟩
 ·unfold tripO at hq
  obtain⟨a,b⟩:=q
  have e1:a=n:=e1
  exact absurd (List.of_mem_zip hq).1 (by rw[e1]; exact h)
 ·exact h
theorem inO_def (o:Ob) (v:Val):inO o v=(((tripO o).all fun p=>match getV v p.1 with|some x=>inT p.2.1 x|none=>!p.2.2)&&(v.keys.zip v.items).all fun p=>o.names.any (sEq · p.1)||inT o.rest p.2):=by
 obtain⟨ns,fs,ms,r⟩:=o
 simp only[inO,tripO,Ob.names_mk,Ob.fields_mk,Ob.must_mk,Ob.rest_mk,inTs_map]
 congr 1
 have:ns.zip ((fs.map inT).zip ms)=(ns.zip (fs.zip ms)).map fun p=>(p.1,inT p.2.1,p.2.2):=by
  have h1:(fs.map inT).zip ms=(fs.zip ms).map fun q=>(inT q.1,q.2):=by
   rw[List.zip_map_left]; rfl
  rw[h1,List.zip_map_right]; rfl
 rw[this,List.all_map]
 rfl
theorem names_any {l:List S} {s:S}:l.any (sEq · s)=true↔s∈l:=by
 rw[List.any_eq_true]
 exact⟨fun ⟨x,hx,e⟩=>by rw[← sEq_iff.1 e]; exact hx,fun h=>⟨s,h,sEq_iff.2 rfl⟩⟩
theorem inO_field {o:Ob} {v:Val} (ho:formedO o=true) (hv:formedV v=true) (h6:v.kind=6) :
 inO o v=true↔∀ n,(∀ x,getV v n=some x→inT (fieldO o n).1 x=true)∧(getV v n=none→(fieldO o n).2=false):=by
 obtain⟨hl,hs⟩:=(formedV_spec hv).2.2.2.1 h6
 rw[inO_def,Bool.and_eq_true,List.all_eq_true,List.all_eq_true]
 constructor
 ·rintro⟨h1,h2⟩ n
  rcases fieldO_cases o n with ⟨p,hp,e1,e2⟩|⟨e,hn⟩
  ·have:=h1 p hp
   rw[e1] at this
   rw[e2]
   refine⟨fun x hx=>by rw[hx] at this; exact this,fun hx=>by rw[hx] at this; simpa using this⟩
  ·rw[e]
   refine⟨fun x hx=>?_,fun _=>rfl⟩
   have:=h2 _ (getV_zip hx)
   rw[Bool.or_eq_true,names_any] at this
   rcases this with k|k
   ·obtain⟨p,hp,e⟩:=(trip_name ho).1 k
    exact absurd e (hn p hp)
   ·exact k
 ·intro h
  refine⟨fun p hp=>?_,fun p hp=>?_⟩
  ·have:=h p.1
   rw[fieldO_mem ho hp] at this
   cases hg:getV v p.1 with
   | none=>simp[this.2 hg]
   | some x=>exact this.1 x hg
  ·rw[Bool.or_eq_true,names_any]
   by_cases k:p.1∈o.names
   ·exact .inl k
   ·have:=(h p.1).1 p.2 (zip_getV h6 hs hp)
    rw[fieldO_not k] at this
    exact .inr this
theorem low_in {n a b:S} (h:sEmp a=true∨(numCmp n a).isLT=false):sEmp (lowS a b)=true∨(numCmp n (lowS a b)).isLT=false:=by
 unfold lowS
 split
 ·exact .inl rfl
 ·rename_i he
  split
  ·exact h
  ·rename_i hle
   right
   have ha:sEmp a=false:=by
    cases e:sEmp a
    ·rfl
    ·rw[e] at he; simp at he
   rcases h with h|h
   ·rw[h] at ha; cases ha
   ·have h1:(numCmp b a).isLE=true:=isLE_swap (by simpa using hle)
    have h2:(numCmp a n).isLE=true:=by rw[numCmp_swap]; revert h; cases numCmp n a<;>simp
    have h3:=le_trans' h1 h2
    revert h3
    rw[numCmp_swap n b]
    cases numCmp n b<;>simp
theorem high_in {n a b:S} (h:sEmp a=true∨(numCmp n a).isLE=true):sEmp (highS a b)=true∨(numCmp n (highS a b)).isLE=true:=by
 unfold highS
 split
 ·exact .inl rfl
 ·rename_i he
  split
  ·exact h
  ·rename_i hle
   right
   have ha:sEmp a=false:=by
    cases e:sEmp a
    ·rfl
    ·rw[e] at he; simp at he
   rcases h with h|h
   ·rw[h] at ha; cases ha
   ·exact le_trans' h (isGE_swap (by simpa using hle))
theorem lowS_comm (a b:S):lowS a b=lowS b a:=by
 unfold lowS
 rw[Bool.or_comm]
 split
 ·rfl
 ·cases h:numCmp a b
  ·rw[numCmp_swap a b,h]; simp
  ·have e:=numCmp_eq.1 h
   subst e; rw[h]
  ·rw[numCmp_swap a b,h]; simp
theorem highS_comm (a b:S):highS a b=highS b a:=by
 unfold highS
 rw[Bool.or_comm]
 split
 ·rfl
 ·cases h:numCmp a b
  ·rw[numCmp_swap a b,h]; simp
  ·have e:=numCmp_eq.1 h
   subst e; rw[h]
  ·rw[numCmp_swap a b,h]; simp
theorem inSpan_iff {n:S} {s:Span}:inSpanB n s=true↔(sEmp s.low=true∨(numCmp n s.low).isLT=false)∧(sEmp s.high=true∨(numCmp n s.high).isLE=true):=by
 simp only[inSpanB,Bool.and_eq_true,Bool.or_eq_true,Bool.not_eq_true']
theorem in_sumN {n:S} {a b:List Span} (h:headB (inSpanB n) a=true∨headB (inSpanB n) b=true):headB (inSpanB n) (sumN a b)=true:=by
 cases a with
 | nil=>simpa[sumN] using h
 | cons x a =>
   cases b with
   | nil=>simpa[sumN] using h
   | cons y b =>
     simp only[sumN,headB_cons] at h ⊢
     rw[inSpan_iff]
     rcases h with h|h
     ·rw[inSpan_iff] at h
      exact⟨low_in h.1,high_in h.2⟩
     ·rw[inSpan_iff] at h
      rw[lowS_comm,highS_comm]
      exact⟨low_in h.1,high_in h.2⟩
theorem sum_texts {a b:Ty} {s:S}:((a.any||b.any)||(if a.any||b.any then [] else mergeS a.texts b.texts).any (sEq · s))=((a.any||a.texts.any (sEq · s))||(b.any||b.texts.any (sEq · s))):=by
 cases h:a.any
 ·cases h' : b.any
  ·simp only[Bool.false_or,Bool.false_eq_true,if_false]
   rw[Bool.eq_iff_iff,Bool.or_eq_true,names_any,names_any,names_any,mem_mergeS]
  ·simp
 ·simp
theorem in_sum_step {a b:Ty} {v:Val} (hA:∀ x∈a.arrays,∀ b u,inT x.item u=true∨inT b u=true→inT (sumT x.item b) u=true) (h:inT a v=true∨inT b v=true):inT (sumT a b) v=true:=by
 rw[inT_def,inT_def] at h
 rw[inT_def,sumT_def]
 by_cases hall:(a.all||b.all)=true
 ·rw[if_pos hall]; rfl
 have h1:a.all=false∧b.all=false:=by simpa using hall
 rw[if_neg hall]
 rw[h1.1,h1.2,Bool.false_or,Bool.false_or] at h
 simp only[Ty.all_mk,Ty.null_mk,Ty.fls_mk,Ty.tru_mk,Ty.nums_mk,Ty.any_mk,Ty.texts_mk,Ty.arrays_mk,Ty.objects_mk,Bool.false_or]
 by_cases k0:v.kind=0
 ·simpa only[if_pos k0,Bool.or_eq_true] using h
 by_cases k1:v.kind=1
 ·simpa only[if_neg k0,if_pos k1,Bool.or_eq_true] using h
 by_cases k2:v.kind=2
 ·simpa only[if_neg k0,if_neg k1,if_pos k2,Bool.or_eq_true] using h
 by_cases k3:v.kind=3
 ·simp only[if_neg k0,if_neg k1,if_neg k2,if_pos k3] at h ⊢
  exact in_sumN h
 by_cases k4:v.kind=4
 ·simp only[if_neg k0,if_neg k1,if_neg k2,if_neg k3,if_pos k4] at h ⊢
  rw[sum_texts,Bool.or_eq_true]
  exact h
 by_cases k5:v.kind=5
 ·simp only[if_neg k0,if_neg k1,if_neg k2,if_neg k3,if_neg k4,if_pos k5] at h ⊢
  cases ha:a.arrays with
  | nil =>
    rw[ha] at h
    rw[sumAs_nil_l]
    simpa using h
  | cons x az =>
    cases hb:b.arrays with
    | nil =>
      rw[ha,hb] at h
      rw[sumAs_nil_r]
      simpa using h
    | cons y bz =>
      rw[ha,hb] at h
      simp only[sumAs,headB_cons] at h ⊢
      rw[inA_iff,inA_iff] at h
      rw[inA_iff,sumA_def]
      simp only[Arr.min_mk,Arr.max_mk,Arr.item_mk]
      refine⟨?_,?_,fun u hu=>hA x (by rw[ha]; simp) _ _ ?_⟩
      ·split<;>omega
      ·split
       ·left; omega
       ·split<;>omega
      ·rcases h with h|h
       ·exact .inl (h.2.2 u hu)
       ·exact .inr (h.2.2 u hu)
 ·simp only[if_neg k0,if_neg k1,if_neg k2,if_neg k3,if_neg k4,if_neg k5,List.any_append,Bool.or_eq_true] at h ⊢
  exact h
theorem in_sum:∀ (n:Nat) (a b:Ty) (v:Val),heightT a≤n→inT a v=true∨inT b v=true→inT (sumT a b) v=true:=by
 intro n
 induction n with
 | zero=>exact fun a b v hh=>in_sum_step fun x hx=>by rw[(height_le_zero.1 hh).1] at hx; cases hx
 | succ n ih=>exact fun a b v hh=>in_sum_step fun x hx b u=>ih _ b u ((height_le_succ.1 hh).1 x hx)
theorem in_sumT {a b:Ty} {v:Val} (h:inT a v=true∨inT b v=true):inT (sumT a b) v=true:=in_sum _ a b v (Nat.le_refl _) h
theorem sum_in {a b:Ty} {v:Val} (h3:v.kind≠3) (h5:v.kind≠5) (h:inT (sumT a b) v=true):inT a v=true∨inT b v=true:=by
 rw[inT_def,inT_def]
 rw[inT_def,sumT_def] at h
 by_cases hall:(a.all||b.all)=true
 ·rw[Bool.or_eq_true] at hall
  rcases hall with e|e
  ·exact .inl (by rw[e]; rfl)
  ·exact .inr (by rw[e]; rfl)
 ·have h1:a.all=false∧b.all=false:=by simpa using hall
  rw[if_neg hall] at h
  rw[h1.1,h1.2,Bool.false_or,Bool.false_or]
  simp only[Ty.all_mk,Ty.null_mk,Ty.fls_mk,Ty.tru_mk,Ty.nums_mk,Ty.any_mk,Ty.texts_mk,Ty.arrays_mk,Ty.objects_mk,Bool.false_or,if_neg h3,if_neg h5] at h ⊢
  by_cases k0:v.kind=0
  ·simpa only[if_pos k0,Bool.or_eq_true] using h
  by_cases k1:v.kind=1
  ·simpa only[if_neg k0,if_pos k1,Bool.or_eq_true] using h
  by_cases k2:v.kind=2
  ·simpa only[if_neg k0,if_neg k1,if_pos k2,Bool.or_eq_true] using h
  by_cases k4:v.kind=4
  ·simp only[if_neg k0,if_neg k1,if_neg k2,if_pos k4] at h ⊢
   rw[sum_texts,Bool.or_eq_true] at h
   exact h
  ·simp only[if_neg k0,if_neg k1,if_neg k2,if_neg k4,List.any_append,Bool.or_eq_true] at h ⊢
   exact h
theorem in_fold {v:Val}:∀ (l:List Ty) (acc:Ty),(inT acc v=true∨∃ t∈l,inT t v=true)→inT (l.foldl sumT acc) v=true
 | [],acc,h=>by
   rcases h with h|⟨t,ht,_⟩
   ·exact h
   ·cases ht
 | t::l,acc,h=>by
   rw[List.foldl_cons]
   refine in_fold l _ ?_
   rcases h with h|⟨u,hu,h⟩
   ·exact .inl (in_sumT (.inl h))
   ·rcases List.mem_cons.1 hu with rfl|hu
    ·exact .inl (in_sumT (.inr h))
    ·exact .inr ⟨u,hu,h⟩
theorem in_sumL {l:List Ty} {t:Ty} {v:Val} (ht:t∈l) (h:inT t v=true):inT (sumL l) v=true:=in_fold l _ (.inr ⟨t,ht,h⟩)
theorem fieldO_oneO {l:List Ob} (h:∀ o∈l,formedO o=true) (h0:l≠[]) (n:S):fieldO (oneO l) n=(sumL (l.map fun o=>(fieldO o n).1),l.all fun o=>(fieldO o n).2):=by
 have hf:=formed_oneO h h0
 by_cases hn:n∈namesL l
 ·have hp:(n,sumL (l.map fun o=>(fieldO o n).1),l.all fun o=>(fieldO o n).2)∈tripO (oneO l):=by
     unfold tripO oneO
     simp only[Ob.names_mk,Ob.fields_mk,Ob.must_mk]
     rw[zip_map2]
     have:(namesL l).zip ((namesL l).map fun x=>(sumL (l.map fun o=>(fieldO o x).1),l.all fun o=>(fieldO o x).2))=(namesL l).map fun x=>(x,sumL (l.map fun o=>(fieldO o x).1),l.all fun o=>(fieldO o x).2):=by
      have:=zip_map2 (fun x:S=>x) (fun x=>(sumL (l.map fun o=>(fieldO o x).1),l.all fun o=>(fieldO o x).2)) (namesL l)
      rwa [List.map_id'] at this
     rw[this]
     exact List.mem_map.2 ⟨n,hn,rfl⟩
  exact fieldO_mem hf hp
 ·rw[fieldO_not hn]
  have hno:∀ o∈l,fieldO o n=(o.rest,false):=fun o ho=>fieldO_not fun hm=>hn ((mem_namesL h).2 ⟨o,ho,hm⟩)
  have e1:l.map (fun o=>(fieldO o n).1)=l.map Ob.rest:=List.map_congr_left fun o ho=>by rw[hno o ho]
  have e2:(l.all fun o=>(fieldO o n).2)=false:=by
   obtain⟨o,ho⟩:=List.exists_mem_of_ne_nil _ h0
   exact List.all_eq_false.2 ⟨o,ho,by rw[hno o ho]; simp⟩
  rw[e1,e2]
  rfl
theorem in_oneO {l:List Ob} (h:∀ o∈l,formedO o=true) {v:Val} (hv:formedV v=true) (h6:v.kind=6) {o:Ob} (ho:o∈l) (hi:inO o v=true):inO (oneO l) v=true:=by
 have h0:l≠[]:=List.ne_nil_of_mem ho
 rw[inO_field (formed_oneO h h0) hv h6]
 rw[inO_field (h o ho) hv h6] at hi
 intro n
 rw[fieldO_oneO h h0]
 refine⟨fun x hx=>in_sumL (List.mem_map.2 ⟨o,ho,rfl⟩) ((hi n).1 x hx),fun hx=>?_⟩
 exact List.all_eq_false.2 ⟨o,ho,by rw[(hi n).2 hx]; simp⟩
theorem oneO_one {o:Ob} (h:formedO o=true):oneO [o]=o:=by
 obtain⟨h1,h2,h3,h4,h5,h6⟩:=formedO_spec h
 have hn:namesL [o]=o.names:=by
  unfold namesL
  rw[List.foldl_cons,List.foldl_nil,mergeS_nil_l]
 obtain⟨t1,t2,t3⟩:=trip_names h1 h2
 have e2:o.names.map (fun n=>sumL ([o].map fun o=>(fieldO o n).1))=o.fields:=by
  rw[← t2,← t1,List.map_map]
  refine List.map_congr_left fun p hp=>?_
  have:=fieldO_mem h hp
  simp only[Function.comp,List.map_cons,List.map_nil,this]
  rw[sumL_one]
  have:=(fieldO_formed h p.1).1
  rwa [fieldO_mem h hp] at this
 have e3:o.names.map (fun n=>[o].all fun o=>(fieldO o n).2)=o.must:=by
  rw[← t3,← t1,List.map_map]
  refine List.map_congr_left fun p hp=>?_
  simp only[Function.comp,List.all_cons,List.all_nil,Bool.and_true,fieldO_mem h hp]
 have e4:sumL ([o].map Ob.rest)=o.rest:=sumL_one h4
 unfold oneO
 rw[hn,e2,e3,e4,Ob.eta]
theorem in_alone {o:Ob} {v:Val} (hv:formedV v=true):inT (aloneT o) v=true↔v.kind=6∧inO o v=true:=by
 obtain⟨h1,h2,_⟩:=formedV_spec hv
 rw[inT_def]
 simp only[aloneT,Ty.all_mk,Ty.null_mk,Ty.fls_mk,Ty.tru_mk,Ty.nums_mk,Ty.any_mk,Ty.texts_mk,Ty.arrays_mk,Ty.objects_mk,Bool.false_or,List.any_nil,List.any_cons,Bool.or_false]
 by_cases k:v.kind=6
 ·simp[k]
 ·simp only[k,false_and,iff_false]
  repeat' split
  all_goals first|(simp; done)|(exfalso; omega)
end Go.Tidy
set_option maxRecDepth 100000
namespace Go.Proofs.YtfilonnphgnplaaGreatDoor.Pv
open Go Go.Tidy
theorem inO_idx (v:Val) (o:Ob) (hf:o.fields.length=o.names.length) (hm:o.must.length=o.names.length) (hk:v.keys.length=v.items.length) :
 (((List.range o.names.length).all (inF v o))&&(List.range v.keys.length).all fun k=>(match v.keys[k]?,v.items[k]? with|some s,some x=>o.names.any (sEq · s)||inT o.rest x|_,_=>false))=inO o v:=by
 rw[inO_def,Bool.eq_iff_iff,Bool.and_eq_true,Bool.and_eq_true,List.all_eq_true,List.all_eq_true,List.all_eq_true,List.all_eq_true]
 refine and_congr ⟨fun h p hp=>?_,fun h k hk'=>?_⟩ ⟨fun h p hp=>?_,fun h k hk'=>?_⟩
 ·obtain⟨i,hi,rfl⟩:=List.getElem_of_mem hp
  unfold tripO at hi ⊢
  simp only[List.length_zip] at hi
  have:=h i (List.mem_range.2 (by omega))
  unfold inF at this
  rw[List.getElem?_eq_getElem (show i<o.names.length by omega),List.getElem?_eq_getElem (show i<o.fields.length by omega),List.getElem?_eq_getElem (show i<o.must.length by omega)] at this
  simp only[List.getElem_zip]
  exact this
 ·have hlt:=List.mem_range.1 hk'
  have:=h (o.names[k],o.fields[k]'(by omega),o.must[k]'(by omega)) (by
   have e:(tripO o)[k]'(by unfold tripO; simp; omega)=(o.names[k],o.fields[k]'(by omega),o.must[k]'(by omega)):=by
    unfold tripO
    simp only[List.getElem_zip]
   rw[← e]
   exact List.getElem_mem _)
  unfold inF
  rw[List.getElem?_eq_getElem hlt,List.getElem?_eq_getElem (show k<o.fields.length by omega),List.getElem?_eq_getElem (show k<o.must.length by omega)]
  exact this
 ·obtain⟨i,hi,rfl⟩:=List.getElem_of_mem hp
  simp only[List.length_zip] at hi
  have:=h i (List.mem_range.2 (by omega))
  rw[List.getElem?_eq_getElem (show i<v.keys.length by omega),List.getElem?_eq_getElem (show i<v.items.length by omega)] at this
  simp only[List.getElem_zip]
  exact this
 ·have hlt:=List.mem_range.1 hk'
  have:=h (v.keys[k],v.items[k]'(by omega)) (by
   have e:(v.keys.zip v.items)[k]'(by simp; omega)=(v.keys[k],v.items[k]'(by omega)):=by simp only[List.getElem_zip]
   rw[← e]
   exact List.getElem_mem _)
  rw[List.getElem?_eq_getElem hlt,List.getElem?_eq_getElem (show k<v.items.length by omega)]
  exact this
theorem inLB_eq (a:Arr) (v:Val):inLB a v.items=inA a v:=by
 obtain⟨t,lo,hi⟩:=a
 rfl
set_option maxHeartbeats 4000000 in
theorem in_walk (t:Ty) (v:Val) (hv:formedV v=true) (hn:∀ s∈t.nums,spanB s=true) (hA:∀ a∈t.arrays,Ret prog M.F_ref09_inArr [.vec 5 false (v.items.map encVal),.agg (cA a)] (.bool (inA a v)))
 (hO:v.kind=6→∀ o∈t.objects,Ret prog M.F_ref09_InObj [.agg (cV v),.agg (cO o)] (.bool (inO o v))):Ret prog M.F_ref09_In [.agg (cV v),.agg (cT t)] (.bool (inT t v)):=by
 refine Ret.go hmix h_ref09_In (by simp) fun hb w0 F0 hG=>?_
 simp only[bndL,bndV,List.length_map,LIM,and_true] at hb
 obtain⟨v1,v2,v3,v4,v5⟩:=formedV_spec hv
 cases ha:t.all
 case true =>
   have hB:inT t v=true:=by rw[inT_def,ha]; rfl
   rw[hB]
   simp[ha]
 have hB:=inT_def t v
 rw[ha,Bool.false_or] at hB
 by_cases k0:v.kind=0
 ·rw[if_pos k0] at hB
  rw[hB]
  simp[ha,k0]
 rw[if_neg k0] at hB
 by_cases k1:v.kind=1
 ·rw[if_pos k1] at hB
  rw[hB]
  simp[ha,k1]
 rw[if_neg k1] at hB
 by_cases k2:v.kind=2
 ·rw[if_pos k2] at hB
  rw[hB]
  simp[ha,k2]
 rw[if_neg k2] at hB
 by_cases k3:v.kind=3
 ·rw[if_pos k3] at hB
  rw[hB]
  have hnum:=v3 k3
  cases hns:t.nums with
  | nil=>simp[ha,k3,hns]
  | cons s ns =>
    have hs:=hn s (by rw[hns]; simp)
    obtain⟨b1,b2,_⟩:=spanB_iff.1 hs
    have c1:=c_ref09_InSpan v.num s hnum b1 b2
    have hl:(0:Int)<(ns.length:Int)+1:=by omega
    simp[ha,k3,hns,hl]
    intros
    refine XDCall.ret (by first|exact c1|(simp; exact c1)) ?_
    simp
 rw[if_neg k3] at hB
 by_cases k4:v.kind=4
 ·rw[if_pos k4] at hB
  cases hany:t.any
  case true =>
    rw[hany,Bool.true_or] at hB
    rw[hB]
    simp[ha,k4,hany]
  rw[hany,Bool.false_or] at hB
  generalize hBB:inT t v=B at *
  simp[ha,k4,hany]
  intro w1 w2
  obtain⟨J,hJ⟩ : ∃ J:Nat→Unit→Prop,J=fun k _=>AllTo (fun u=>!sEq u v.text) t.texts k:=⟨_,rfl⟩
  refine XLoop.cnt hmix t.texts.length (fun k _=>⟨[(5,.int .i64 k),(4,.bool false),(3,.ptr (3,w2) 9 0 0),(2,.ptr (2,w1) 5 0 0)],[((3,w2),some ⟨9,[cT t],false,true⟩),((2,w1),some ⟨5,[cV v],false,true⟩)]⟩) J () (by rw[hJ]; exact .zero) (by simp) fun k _ hk hj=>?_
  have hw:=wrap64 (n:=(k:Int)+1) (by omega) (by omega)
  have hj' : AllTo (fun u=>!sEq u v.text) t.texts k:=by rw[hJ] at hj; exact hj
  by_cases g1:k<t.texts.length
  ·cases e1:sEq t.texts[k] v.text
   ·simp[g1,e1,hw]
    exact⟨(),by rw[hJ]; exact hj'.step g1 (by simp[e1])⟩
   ·have hBt:B=true:=by rw[hB,List.any_eq_true]; exact⟨t.texts[k],List.getElem_mem g1,e1⟩
    simp[g1,e1,hBt]
  ·have hBf:B=false:=by
      rw[hB]
      have:=hj'.all g1
      rw[List.all_eq_true] at this
      exact List.any_eq_false.2 fun x hx=>by simpa using this x hx
   simp[g1,hBf]
 rw[if_neg k4] at hB
 by_cases k5:v.kind=5
 ·rw[if_pos k5] at hB
  rw[hB]
  cases hz:t.arrays with
  | nil=>simp[ha,k5,hz]
  | cons a az =>
    have c1:=hA a (by rw[hz]; simp)
    have hl:(0:Int)<(az.length:Int)+1:=by omega
    simp[ha,k5,hz,hl]
    intros
    refine XDCall.ret (by first|exact c1|(simp; exact c1)) ?_
    simp
 rw[if_neg k5] at hB
 have k6:v.kind=6:=by omega
 generalize hBB:inT t v=B at *
 simp[ha,k6]
 intro w1 w2
 obtain⟨J,hJ⟩ : ∃ J:Nat→Unit→Prop,J=fun k _=>AllTo (fun u=>!inO u v) t.objects k:=⟨_,rfl⟩
 refine XLoop.cnt hmix t.objects.length (fun k _=>⟨[(6,.int .i64 k),(4,.bool false),(3,.ptr (3,w2) 9 0 0),(2,.ptr (2,w1) 5 0 0)],[((3,w2),some ⟨9,[cT t],false,true⟩),((2,w1),some ⟨5,[cV v],false,true⟩)]⟩) J () (by rw[hJ]; exact .zero) (by simp) fun k _ hk hj=>?_
 have hw:=wrap64 (n:=(k:Int)+1) (by omega) (by omega)
 have hj' : AllTo (fun u=>!inO u v) t.objects k:=by rw[hJ] at hj; exact hj
 by_cases g1:k<t.objects.length
 ·have c1:=hO k6 _ (List.getElem_mem g1)
  cases e1:inO t.objects[k] v
  ·have hJn:J (k+1) ():=by rw[hJ]; exact hj'.step g1 (by simp[e1])
   rw[e1] at c1
   simp[g1]
   intros
   refine XDCall.ret (by first|exact c1|(simpa using c1)) ?_
   simp[g1,hw]
   exact⟨(),hJn⟩
  ·have hBt:B=true:=by rw[hB,List.any_eq_true]; exact⟨t.objects[k],List.getElem_mem g1,e1⟩
   rw[e1] at c1
   simp[g1]
   intros
   refine XDCall.ret (by first|exact c1|(simpa using c1)) ?_
   simp[g1,hBt]
 ·have hBf:B=false:=by
     rw[hB]
     have:=hj'.all g1
     rw[List.all_eq_true] at this
     exact List.any_eq_false.2 fun x hx=>by simpa using this x hx
  simp[g1,hBf]
theorem c_ref09_In:∀ (t:Ty) (v:Val),formedT t=true→formedV v=true→Ret prog M.F_ref09_In [.agg (cV v),.agg (cT t)] (.bool (inT t v)):=by
 intro t
 induction hn:SizeOf.sizeOf t using Nat.strongRecOn generalizing t with
 | _ n ih =>
   subst hn
   intro v ht hv
   obtain⟨f1,f2,f3,f4,f5,f6,f7,f8⟩:=formedT_spec ht
   obtain⟨v1,v2,v3,v4,v5⟩:=formedV_spec hv
   refine in_walk t v hv f5 (fun a ha=>?_) fun h6 o ho=>?_
   ·rw[← inLB_eq]
    exact inArr_step v.items a fun x hx=>ih _ (sz_item ha) a.item rfl x (formedA_spec (f7 a ha)).2.2.2.1 (v5 x hx)
   ·obtain⟨o1,o2,o3,o4,o5,o6⟩:=formedO_spec (f8 o ho)
    have hk:=(v4 h6).1
    rw[← inO_idx v o (by omega) (by omega) hk]
    exact inObj_step v o (by omega) (by omega) hk (fun f hf x hx=>ih _ (sz_field ho hf) f rfl x (o5 f hf) (v5 x hx)) fun x hx=>ih _ (sz_rest ho) o.rest rfl x o4 (v5 x hx)
end Go.Proofs.YtfilonnphgnplaaGreatDoor.Pv
set_option maxRecDepth 100000
namespace Go.Proofs.YtfilonnphgnplaaGreatDoor.Pv
open Go Go.Tidy
theorem val_sz {v x:Val} (h:x∈v.items):SizeOf.sizeOf x<SizeOf.sizeOf v:=by
 obtain⟨k,n,t,is,ks⟩:=v
 have:=List.sizeOf_lt_of_mem h
 simp only[Val.items] at this
 simp only[Val.mk.sizeOf_spec]
 omega
theorem all_step (l:List Val) (h:∀ v∈l,Ret prog M.F_ref03_Formed [.agg (cV v)] (.bool (formedV v))):Ret prog M.F_ref03_All [.vec 5 false (l.map encVal)] (.bool (l.all formedV)):=by
 refine Ret.go hmix h_ref03_All (by simp) fun hb w0 F0 hG=>?_
 simp only[bndL,bndV,List.length_map,LIM,and_true] at hb
 generalize hB:l.all formedV=B
 obtain⟨J,hJ⟩ : ∃ J:Nat→Unit→Prop,J=fun k _=>AllTo formedV l k:=⟨_,rfl⟩
 simp
 refine XLoop.cnt hmix l.length (fun k _=>⟨[(3,.int .i64 k),(2,.bool false),(0,.vec 5 false (l.map encVal))],[]⟩) J () (by rw[hJ]; exact .zero) (by simp) fun k _ hk hj=>?_
 have hw:=wrap64 (n:=(k:Int)+1) (by omega) (by omega)
 have hj' : AllTo formedV l k:=by rw[hJ] at hj; exact hj
 by_cases q1:k<l.length
 ·have c1:=h _ (List.getElem_mem q1)
  cases e1:formedV l[k]
  ·have hBf:B=false:=by rw[← hB,List.all_eq_false]; exact⟨l[k],List.getElem_mem q1,by simp[e1]⟩
   rw[e1] at c1
   simp[q1]
   refine XCall.ret (by simpa using c1) ?_
   simp[hBf]
  ·have hJn:J (k+1) ():=by rw[hJ]; exact hj'.step q1 e1
   rw[e1] at c1
   simp[q1]
   refine XCall.ret (by simpa using c1) ?_
   simp[q1,hw]
   exact⟨(),hJn⟩
 ·have hBt:B=true:=by rw[← hB]; exact hj'.all q1
  simp[q1,hBt]
theorem formedV_def (v:Val):formedV v=(decide (0≤v.kind)&&decide (v.kind≤6)&&(if v.kind=3 then numB v.num else sEmp v.num)&&(if v.kind=4 then utfB v.text else sEmp v.text)&&(decide (5≤v.kind)||v.items.isEmpty)&&(decide (6≤v.kind)||v.keys.isEmpty) &&
 (!decide (v.kind=6)||(decide (v.keys.length=v.items.length)&&riseB v.keys))&&v.items.all formedV):=by
 obtain⟨k,n,t,is,ks⟩:=v
 rw[formedV,formedVs_all]; rfl
set_option maxHeartbeats 8000000 in
theorem formedV_walk (v:Val) (h:∀ x∈v.items,Ret prog M.F_ref03_Formed [.agg (cV x)] (.bool (formedV x))):Ret prog M.F_ref03_Formed [.agg (cV v)] (.bool (formedV v)):=by
 refine Ret.go hmix h_ref03_Formed (by simp) fun hb w0 F0 hG=>?_
 simp only[bndL,bndV,List.length_map,LIM,and_true] at hb
 have cA:=all_step v.items h
 have cN:=c_ref03_Number v.num
 have cU:=c_ref03_UTF v.text
 have cR:=c_ref03_Rise v.keys
 have hD:=formedV_def v
 generalize hB:formedV v=B at *
 generalize hAA:v.items.all formedV=A at *
 have nI:∀ {n:Nat},(0:Int)<(n:Int)↔0<n:=by omega
 have eI:v.items.isEmpty=!decide (0<v.items.length):=by cases v.items<;>simp
 have eK:v.keys.isEmpty=!decide (0<v.keys.length):=by cases v.keys<;>simp
 rw[eI,eK] at hD
 have hA0:¬ 0<v.items.length→A=true:=fun h0=>by
  rw[← hAA,List.length_eq_zero_iff.1 (show v.items.length=0 by omega)]; rfl
 by_cases a1:v.kind<0
 ·have hB' : B=false:=by rw[hD]; simp[show ¬ 0≤v.kind by omega]
  simp[a1,hB']
 by_cases a2:6<v.kind
 ·have hB' : B=false:=by rw[hD]; simp[show ¬ v.kind≤6 by omega]
  simp[a1,a2,hB']
 have hk:v.kind=3∨v.kind=4∨v.kind=5∨v.kind=6∨v.kind=0∨v.kind=1∨v.kind=2:=by omega
 rcases hk with k|k|k|k|k|k|k
 ·cases e1:numB v.num
  ·rw[e1] at cN hD
   simp[k] at hD
   simp[k]
   intros
   refine XCall.ret cN ?_
   simp[k,hD]
  rw[e1] at cN hD
  cases e2:sEmp v.text
  ·rw[e2] at hD
   simp[k] at hD
   simp[k]
   intros
   refine XCall.ret cN ?_
   simp[k,e2,hD]
  by_cases e3:0<v.items.length
  ·simp[k,e3] at hD
   simp[k]
   intros
   refine XCall.ret cN ?_
   simp[k,e2,e3,nI,hD]
  by_cases e4:0<v.keys.length
  ·simp[k,e4] at hD
   simp[k]
   intros
   refine XCall.ret cN ?_
   simp[k,e2,e3,e4,nI,hD]
  rw[e2] at hD
  simp[k,e3,e4] at hD
  simp[k]
  intros
  refine XCall.ret cN ?_
  simp[k,e2,e3,e4,nI]
  intros
  refine XCall.ret (by first|exact cA|(simpa using cA)) ?_
  simp[hD]
 ·cases e1:sEmp v.num
  ·rw[e1] at hD
   simp[k] at hD
   simp[k,e1,hD]
  rw[e1] at hD
  cases e2:utfB v.text
  ·rw[e2] at cU hD
   simp[k] at hD
   simp[k,e1]
   intros
   refine XCall.ret cU ?_
   simp[k,hD]
  rw[e2] at cU hD
  by_cases e3:0<v.items.length
  ·simp[k,e3] at hD
   simp[k,e1]
   intros
   refine XCall.ret cU ?_
   simp[k,e3,nI,hD]
  by_cases e4:0<v.keys.length
  ·simp[k,e4] at hD
   simp[k,e1]
   intros
   refine XCall.ret cU ?_
   simp[k,e3,e4,nI,hD]
  simp[k,e3,e4] at hD
  simp[k,e1]
  intros
  refine XCall.ret cU ?_
  simp[k,e3,e4,nI]
  intros
  refine XCall.ret (by first|exact cA|(simpa using cA)) ?_
  simp[hD]
 ·cases e1:sEmp v.num
  ·rw[e1] at hD
   simp[k] at hD
   simp[k,e1,hD]
  rw[e1] at hD
  cases e2:sEmp v.text
  ·rw[e2] at hD
   simp[k] at hD
   simp[k,e1,e2,hD]
  rw[e2] at hD
  by_cases e4:0<v.keys.length
  ·simp[k,e4] at hD
   simp[k,e1,e2,e4,nI,hD]
  simp[k,e4] at hD
  simp[k,e1,e2,e4,nI]
  intros
  refine XCall.ret (by first|exact cA|(simpa using cA)) ?_
  simp[hD]
 ·cases e1:sEmp v.num
  ·rw[e1] at hD
   simp[k] at hD
   simp[k,e1,hD]
  rw[e1] at hD
  cases e2:sEmp v.text
  ·rw[e2] at hD
   simp[k] at hD
   simp[k,e1,e2,hD]
  rw[e2] at hD
  by_cases e4:v.keys.length=v.items.length
  ·have e4' : (v.keys.length:Int)=v.items.length:=by omega
   cases e5:riseB v.keys
   ·rw[e5] at hD cR
    simp[k] at hD
    simp[k,e1,e2,e4']
    intros
    refine XCall.ret (by first|exact cR|(simpa using cR)) ?_
    simp[hD]
   rw[e5] at hD cR
   simp[k,e4] at hD
   simp[k,e1,e2,e4']
   intros
   refine XCall.ret (by first|exact cR|(simpa using cR)) ?_
   simp
   intros
   refine XCall.ret (by first|exact cA|(simpa using cA)) ?_
   simp[hD]
  ·have e4' : ¬ (v.keys.length:Int)=v.items.length:=by omega
   simp[k,e4] at hD
   simp[k,e1,e2,e4',hD]
 all_goals
   cases e1:sEmp v.num
   ·rw[e1] at hD
    simp[k] at hD
    simp[k,e1,hD]
   rw[e1] at hD
   cases e2:sEmp v.text
   ·rw[e2] at hD
    simp[k] at hD
    simp[k,e1,e2,hD]
   rw[e2] at hD
   by_cases e3:0<v.items.length
   ·simp[k,e3] at hD
    simp[k,e1,e2,e3,nI,hD]
   by_cases e4:0<v.keys.length
   ·simp[k,e3,e4] at hD
    simp[k,e1,e2,e3,e4,nI,hD]
   simp[k,e3,e4] at hD
   simp[k,e1,e2,e3,e4,nI]
   intros
   refine XCall.ret (by first|exact cA|(simpa using cA)) ?_
   simp[hD]
theorem c_ref03_Formed (v:Val):Ret prog M.F_ref03_Formed [.agg (cV v)] (.bool (formedV v)):=by
 induction hn:SizeOf.sizeOf v using Nat.strongRecOn generalizing v with
 | _ n ih =>
   subst hn
   exact formedV_walk v fun x hx=>ih _ (val_sz hx) x rfl
def stepV (R:Val→Int→Int) (m n:Int) (x:Val):Int:=if n≤m then IntKind.i64.wrap (n+R x (IntKind.i64.wrap (m-n))) else n
theorem foldV_stop {R:Val→Int→Int} {m n:Int} (h:¬ n≤m):∀ l:List Val,l.foldl (stepV R m) n=n
 | []=>rfl
 | x::l=>by
   rw[List.foldl_cons]
   have:stepV R m n x=n:=by unfold stepV; rw[if_neg h]
   rw[this,foldV_stop h l]
set_option maxHeartbeats 4000000 in
theorem partsV_walk (v:Val) (m:Int) (R:Val→Int→Int) (h:∀ x∈v.items,∀ m,Ret prog M.F_kit_PartsOf [.agg (cV x),.int .i64 m] (.int .i64 (R x m))) :
 Ret prog M.F_kit_PartsOf [.agg (cV v),.int .i64 m] (.int .i64 (IntKind.i64.wrap (v.items.foldl (stepV R m) 1+v.keys.length))):=by
 refine Ret.go hmix h_kit_PartsOf (by simp) fun hb w0 F0 hG=>?_
 simp only[bndL,bndV,List.length_map,LIM,and_true] at hb
 generalize hN:v.items.foldl (stepV R m) 1=N
 obtain⟨J,hJ⟩ : ∃ J:Nat→Int→Prop,J=fun k n=>n=(v.items.take k).foldl (stepV R m) 1:=⟨_,rfl⟩
 simp
 intro w1
 refine XLoop.cnt hmix v.items.length (fun k n=>⟨[(6,.int .i64 k),(5,.int .i64 n),(4,.int .i64 0),(2,.ptr (2,w1) 5 0 0),(1,.int .i64 m)],[((2,w1),some ⟨5,[cV v],false,true⟩)]⟩) J 1 (by rw[hJ]; rfl) (by simp) fun k n hk hj=>?_
 have hw:=wrap64 (n:=(k:Int)+1) (by omega) (by omega)
 have hj' : n=(v.items.take k).foldl (stepV R m) 1:=by rw[hJ] at hj; exact hj
 have hsp:v.items.foldl (stepV R m) 1=(v.items.drop k).foldl (stepV R m) n:=by
  rw[hj',← List.foldl_append,List.take_append_drop]
 by_cases q1:k<v.items.length
 ·by_cases q2:n≤m
  ·have c1:=h _ (List.getElem_mem q1) (IntKind.i64.wrap (m-n))
   have hJn:J (k+1) (IntKind.i64.wrap (n+R v.items[k] (IntKind.i64.wrap (m-n)))):=by
    rw[hJ]
    show _=_
    rw[List.take_succ_eq_append_getElem q1,List.foldl_append,← hj',List.foldl_cons,List.foldl_nil]
    unfold stepV
    rw[if_pos q2]
   simp[q1,q2]
   refine XCall.ret (by first|exact c1|(simpa using c1)) ?_
   simp[q1,hw]
   exact hJn
  ·rw[foldV_stop q2,hN] at hsp
   simp[q1,q2,hsp]
 ·rw[List.drop_eq_nil_of_le (by omega),hN] at hsp
  have hsp:N=n:=hsp
  simp[q1,hsp]
theorem c_kit_PartsOf (v:Val):∃ r:Int→Int,∀ m,Ret prog M.F_kit_PartsOf [.agg (cV v),.int .i64 m] (.int .i64 (r m)):=by
 induction hn:SizeOf.sizeOf v using Nat.strongRecOn generalizing v with
 | _ n ih =>
   subst hn
   have:∃ R:Val→Int→Int,∀ x∈v.items,∀ m,Ret prog M.F_kit_PartsOf [.agg (cV x),.int .i64 m] (.int .i64 (R x m)):=by
    classical
    refine⟨fun x=>if h:∃ r:Int→Int,∀ m,Ret prog M.F_kit_PartsOf [.agg (cV x),.int .i64 m] (.int .i64 (r m)) then h.choose else fun _=>0,fun x hx=>?_⟩
    have h:=ih _ (val_sz hx) x rfl
    simp only[dif_pos h]
    exact h.choose_spec
   obtain⟨R,hR⟩:=this
   exact⟨_,fun m=>partsV_walk v m R hR⟩
theorem c_kit_Fit1 (v:Val):∃ b,Ret prog M.F_kit_Fit [.vec 5 false [cV v]] (.bool b):=by
 obtain⟨r,hr⟩:=c_kit_PartsOf v
 refine⟨decide (IntKind.i64.wrap (r 20000)≤20000),Ret.go hmix h_kit_Fit (by simp) fun hb w0 F0 hG=>?_⟩
 have c1:=hr 20000
 have hw:IntKind.i64.wrap 20000=20000:=wrap64 (by omega) (by omega)
 have hw1:IntKind.i64.wrap 1=1:=wrap64 (by omega) (by omega)
 generalize r 20000=y at *
 generalize hx:IntKind.i64.wrap y=x
 simp
 refine XLoop.rnd hmix (.s (.s .z)) ?_
 simp[XRnd_s,hw]
 refine XCall.ret (by first|exact c1|(simpa using c1)) ?_
 by_cases g:x≤20000
 ·have g' : ¬ 20000<x:=by omega
  simp[hx,g,g',hw1,XRnd_s]
 ·have g' : 20000<x:=by omega
  simp[hx,g,g']
end Go.Proofs.YtfilonnphgnplaaGreatDoor.Pv
namespace Go.Tidy
open Go
theorem in_every (v:Val):inT tEvery v=true:=by rw[inT_def]; rfl
theorem in_never {t:Ty} {v:Val} (h:never t=true):inT t v=false:=by
 obtain⟨h1,h2,h3,h4,h5,h6,h7,h8,h9⟩:=never_iff.1 h
 rw[inT_def,h1,h2,h3,h4,h5,h6,h7,h8,h9]
 simp
theorem laidAll_formed:formedT laidAll=true:=by
 refine formedT_intro (by simp[laidAll]) (by simp[laidAll,riseB]) (by simp[laidAll]) (by simp[laidAll]) ?_ (by simp[laidAll]) ?_ ?_
 ·intro s hs
  simp only[laidAll,Ty.nums_mk,List.mem_singleton] at hs
  subst hs
  exact spanB_iff.2 ⟨boundB_emp,boundB_emp,fun h=>by cases h⟩
 ·intro a ha
  simp only[laidAll,Ty.arrays_mk,List.mem_singleton] at ha
  subst ha
  exact formedA_intro (by simp) (by simp) (by simp) every_formed (by simp[tEvery,never])
 ·intro o ho
  simp only[laidAll,Ty.objects_mk,List.mem_singleton] at ho
  subst ho
  exact formedO_intro (by simp) (by simp) (by simp[riseB]) every_formed (by simp) (by simp)
theorem laidT_formed {t:Ty} (h:formedT t=true):formedT (laidT t)=true:=by
 unfold laidT
 split
 ·exact laidAll_formed
 ·exact h
theorem in_laidAll {v:Val} (hv:formedV v=true):inT laidAll v=true:=by
 obtain⟨h1,h2,h3,h4,h5⟩:=formedV_spec hv
 rw[inT_def]
 simp only[laidAll,Ty.all_mk,Ty.null_mk,Ty.fls_mk,Ty.tru_mk,Ty.nums_mk,Ty.any_mk,Ty.texts_mk,Ty.arrays_mk,Ty.objects_mk,Bool.false_or,Bool.true_or,List.any_cons,List.any_nil,Bool.or_false,headB_cons]
 have e3:inSpanB v.num ⟨ByteArray.empty,ByteArray.empty⟩=true:=inSpan_iff.2 ⟨.inl rfl,.inl rfl⟩
 have e5:inA (.mk tEvery 0 (-1)) v=true:=inA_iff.2 ⟨by simp,.inl (by simp),fun x _=>in_every x⟩
 have e6:inO (.mk [] [] [] tEvery) v=true:=by
  rw[inO_def]
  simp[tripO,in_every]
 rw[e3,e5,e6]
 simp
theorem in_laidT {t:Ty} {v:Val} (hv:formedV v=true) (h:inT t v=true):inT (laidT t) v=true:=by
 unfold laidT
 split
 ·exact in_laidAll hv
 ·exact h
theorem bel_any (l:List Ob) (x:Ob):belOs l x=l.any fun y=>belO y x:=by
 induction l with
 | nil=>simp[belOs]
 | cons a l ih=>simp[belOs,ih]
theorem belTs_map (l:List Ty):belTs l=l.map belT:=by
 induction l with
 | nil=>simp[belTs]
 | cons a l ih=>simp[belTs,ih]
theorem belA_iff {y x:Arr}:belA y x=true→y.min≤x.min∧(y.max<0∨(0≤x.max∧x.max≤y.max))∧(x.max=0∨belT y.item x.item=true):=by
 obtain⟨t,lo,hi⟩:=y
 simp only[belA,Bool.and_eq_true,Bool.or_eq_true,Bool.not_eq_true',Bool.or_eq_false_iff,Bool.and_eq_false_iff,decide_eq_false_iff_not,decide_eq_true_eq,Arr.min_mk,Arr.max_mk,Arr.item_mk]
 rintro⟨⟨h1,h2⟩,h3⟩
 exact⟨by omega,by omega,h3⟩
theorem belO_def (o x:Ob):belO o x=((x.names++o.names).all (fun n=>(!(fieldO o n).2||(fieldO x n).2)&&belT (fieldO o n).1 (fieldO x n).1)&&belT o.rest x.rest):=by
 obtain⟨ns,fs,ms,r⟩:=o
 simp only[belO,Ob.names_mk,Ob.rest_mk]
 congr 1
 refine congrArg _ (funext fun n=>?_)
 generalize fieldO x n=q
 have:ns.zip ((belTs fs).zip ms)=(ns.zip (fs.zip ms)).map fun p=>(p.1,belT p.2.1,p.2.2):=by
  have h1:(belTs fs).zip ms=(fs.zip ms).map fun q=>(belT q.1,q.2):=by
   rw[belTs_map,List.zip_map_left]; rfl
  rw[h1,List.zip_map_right]; rfl
 rw[this,List.find?_map]
 have e:((fun p:S × (Ty→Bool) × Bool=>sEq p.1 n)∘fun p:S × Ty × Bool=>(p.1,belT p.2.1,p.2.2))=fun p=>sEq p.1 n:=rfl
 rw[e]
 simp only[fieldO,Ob.names_mk,Ob.fields_mk,Ob.must_mk,Ob.rest_mk]
 cases (ns.zip (fs.zip ms)).find? (fun p=>sEq p.1 n)<;>simp
theorem belO_at {o x:Ob} (h:belO o x=true) (n:S):((fieldO o n).2=true→(fieldO x n).2=true)∧belT (fieldO o n).1 (fieldO x n).1=true:=by
 rw[belO_def,Bool.and_eq_true,List.all_eq_true] at h
 by_cases hn:n∈x.names++o.names
 ·have:=h.1 n hn
  rw[Bool.and_eq_true] at this
  refine⟨fun k=>?_,this.2⟩
  rw[k] at this
  simpa using this.1
 ·simp only[List.mem_append,not_or] at hn
  rw[fieldO_not hn.2,fieldO_not hn.1]
  exact⟨(fun k=>by cases k),h.2⟩
theorem span_in {n:S} {a b:Span} (ha:spanB a=true) (h:spanIn a b=true) (hi:inSpanB n a=true):inSpanB n b=true:=by
 rw[inSpan_iff] at hi ⊢
 obtain⟨-,-,h3⟩:=spanB_iff.1 ha
 unfold spanIn at h
 have hh:hollow a=false:=by
  unfold hollow
  cases e1:sEmp a.low
  ·cases e2:sEmp a.high
   ·have:=h3 e1 e2
    revert this
    cases numCmp a.low a.high<;>simp
   ·simp
  ·simp
 rw[hh,Bool.false_or,Bool.and_eq_true,Bool.or_eq_true,Bool.or_eq_true,Bool.and_eq_true,Bool.and_eq_true] at h
 obtain⟨k1,k2⟩:=h
 refine⟨?_,?_⟩
 ·rcases k1 with k|⟨k,k'⟩
  ·exact .inl k
  ·right
   rcases hi.1 with q|q
   ·rw[q] at k; cases k
   ·have h1:(numCmp b.low a.low).isLE=true:=by rw[numCmp_swap]; revert k'; cases numCmp a.low b.low<;>simp
    have h2:(numCmp a.low n).isLE=true:=by rw[numCmp_swap]; revert q; cases numCmp n a.low<;>simp
    have h3:=le_trans' h1 h2
    revert h3
    rw[numCmp_swap n b.low]
    cases numCmp n b.low<;>simp
 ·rcases k2 with k|⟨k,k'⟩
  ·exact .inl k
  ·right
   rcases hi.2 with q|q
   ·rw[q] at k; cases k
   ·exact le_trans' q k'
theorem belT_eq (y x:Ty):belT y x=(never x||y.all||((!(laidT x).null||y.null)&&(!(laidT x).fls||y.fls)&&(!(laidT x).tru||y.tru)&&((laidT x).nums.isEmpty||(match y.nums,(laidT x).nums with|n::_,m::_=>spanIn m n|_,_=>false))&&textsIn (laidT x) y&&((laidT x).arrays.isEmpty||(match y.arrays,(laidT x).arrays with|a::_,b::_=>belA a b|_,_=>false))&&(laidT x).objects.all fun o=>y.objects.any fun p=>belO p o)):=by
 obtain⟨a,b,c,d,ns,e,ts,az,os⟩:=y
 simp only[belT]
 have h1:(laidT x).objects.all (belOs os)=((laidT x).objects.all fun o=>os.any fun p=>belO p o):=by
  congr 1; funext o; exact bel_any os o
 rw[h1]
 rfl
theorem bel_step {y x:Ty} (hx:formedT x=true) (hA:∀ a∈y.arrays,∀ t u,formedT t=true→formedV u=true→belT a.item t=true→inT t u=true→inT a.item u=true)
 (hO:∀ o∈y.objects,∀ p u,formedO p=true→formedV u=true→u.kind=6→belO o p=true→inO p u=true→inO o u=true)
 {v:Val} (hv:formedV v=true) (h:belT y x=true) (hi:inT x v=true):inT y v=true:=by
 rw[belT_eq,Bool.or_eq_true,Bool.or_eq_true] at h
 rcases h with (h|h)|h
 ·rw[in_never h] at hi; cases hi
 ·rw[inT_def,h]; rfl
 have hz:=in_laidT hv hi
 have fz:=laidT_formed hx
 have az:(laidT x).all=false:=by
  unfold laidT
  cases e:x.all<;>simp[laidAll,e]
 generalize laidT x=z at *
 obtain⟨v1,v2,v3,v4,v5⟩:=formedV_spec hv
 obtain⟨f1,f2,f3,f4,f5,f6,f7,f8⟩:=formedT_spec fz
 simp only[Bool.and_eq_true] at h
 obtain⟨⟨⟨⟨⟨⟨g1,g2⟩,g3⟩,g4⟩,g5⟩,g6⟩,g7⟩:=h
 rw[inT_def,az,Bool.false_or] at hz
 rw[inT_def,Bool.or_eq_true]
 right
 by_cases k0:v.kind=0
 ·rw[if_pos k0] at hz ⊢
  rw[hz] at g1; simpa using g1
 by_cases k1:v.kind=1
 ·rw[if_neg k0,if_pos k1] at hz ⊢
  rw[hz] at g2; simpa using g2
 by_cases k2:v.kind=2
 ·rw[if_neg k0,if_neg k1,if_pos k2] at hz ⊢
  rw[hz] at g3; simpa using g3
 by_cases k3:v.kind=3
 ·rw[if_neg k0,if_neg k1,if_neg k2,if_pos k3] at hz ⊢
  cases hn:z.nums with
  | nil=>rw[hn] at hz; cases hz
  | cons m ms =>
    rw[hn] at hz g4
    cases hy:y.nums with
    | nil=>rw[hy] at g4; simp at g4
    | cons n ns =>
      rw[hy] at g4
      exact span_in (f5 m (by rw[hn]; simp)) (by simpa using g4) hz
 by_cases k4:v.kind=4
 ·rw[if_neg k0,if_neg k1,if_neg k2,if_neg k3,if_pos k4] at hz ⊢
  unfold textsIn at g5
  rw[Bool.or_eq_true] at g5 hz ⊢
  rcases g5 with g5|g5
  ·exact .inl g5
  ·rw[Bool.and_eq_true,List.all_eq_true] at g5
   rcases hz with hz|hz
   ·rw[hz] at g5; cases g5.1
   ·right
    have:=g5.2 _ (names_any.1 hz)
    obtain⟨u,hu,e⟩:=List.any_eq_true.1 this
    rw[names_any,← sEq_iff.1 e]
    exact hu
 by_cases k5:v.kind=5
 ·rw[if_neg k0,if_neg k1,if_neg k2,if_neg k3,if_neg k4,if_pos k5] at hz ⊢
  cases hn:z.arrays with
  | nil=>rw[hn] at hz; cases hz
  | cons m ms =>
    rw[hn] at hz g6
    have fm:=formedA_spec (f7 m (by rw[hn]; simp))
    cases hy:y.arrays with
    | nil=>rw[hy] at g6; simp at g6
    | cons n ns =>
      rw[hy] at g6
      obtain⟨b1,b2,b3⟩:=belA_iff (by simpa using g6)
      obtain⟨c1,c2,c3⟩:=inA_iff.1 hz
      refine inA_iff.2 ⟨by omega,by omega,fun u hu=>?_⟩
      rcases b3 with b3|b3
      ·have:v.items.length=0:=by omega
       rw[List.length_eq_zero_iff.1 this] at hu; cases hu
      ·exact hA n (by rw[hy]; simp) _ u fm.2.2.2.1 (v5 u hu) b3 (c3 u hu)
 ·have k6:v.kind=6:=by omega
  rw[if_neg k0,if_neg k1,if_neg k2,if_neg k3,if_neg k4,if_neg k5] at hz ⊢
  obtain⟨o,ho,hio⟩:=List.any_eq_true.1 hz
  rw[List.all_eq_true] at g7
  obtain⟨p,hp,hb⟩:=List.any_eq_true.1 (g7 o ho)
  exact List.any_eq_true.2 ⟨p,hp,hO p hp o v (f8 o ho) hv k6 hb hio⟩
theorem belO_step {o p:Ob} (ho:formedO o=true) (hp:formedO p=true) (hF:∀ n,∀ t u,formedT t=true→formedV u=true→belT (fieldO o n).1 t=true→inT t u=true→inT (fieldO o n).1 u=true)
 {v:Val} (hv:formedV v=true) (h6:v.kind=6) (h:belO o p=true) (hi:inO p v=true):inO o v=true:=by
 rw[inO_field hp hv h6] at hi
 rw[inO_field ho hv h6]
 intro n
 obtain⟨h1,h2⟩:=belO_at h n
 refine⟨fun x hx=>hF n _ x (fieldO_formed hp n).1 ?_ h2 ((hi n).1 x hx),fun hx=>?_⟩
 ·exact (formedV_spec hv).2.2.2.2 x (List.of_mem_zip (getV_zip hx)).2
 ·cases e:(fieldO o n).2
  ·rfl
  ·have:=(hi n).2 hx
   rw[h1 e] at this; cases this
theorem bel_in:∀ (n:Nat) (y x:Ty) (v:Val),heightT y≤n→formedT y=true→formedT x=true→formedV v=true→belT y x=true→inT x v=true→inT y v=true:=by
 intro n
 induction n with
 | zero =>
   intro y x v hh hy hx hv
   have h0:=height_le_zero.1 hh
   exact bel_step hx (fun a ha=>by rw[h0.1] at ha; cases ha) (fun o ho=>by rw[h0.2] at ho; cases ho) hv
 | succ n ih =>
   intro y x v hh hy hx hv
   have h0:=height_le_succ.1 hh
   have fy:=formedT_spec hy
   refine bel_step hx (fun a ha t u ht hu=>ih a.item t u (h0.1 a ha) (formedA_spec (fy.2.2.2.2.2.2.1 a ha)).2.2.2.1 ht hu) (fun o ho p u hp hu h6=>?_) hv
   have fo:=fy.2.2.2.2.2.2.2 o ho
   exact belO_step fo hp (fun n' t w ht hw=>ih _ t w (hle_field (h0.2 o ho) n') (fieldO_formed fo n').1 ht hw) hu h6
theorem belowO_in {a b:Ob} (ha:formedO a=true) (hb:formedO b=true) {v:Val} (hv:formedV v=true) (h6:v.kind=6) (h:belowO a b=true) (hi:inO a v=true):inO b v=true :=
 ((in_alone hv).1 (bel_in _ (aloneT b) (aloneT a) v (Nat.le_refl _) (alone_formed hb) (alone_formed ha) hv h ((in_alone hv).2 ⟨h6,hi⟩))).2
theorem fieldO_ofTrip {o:Ob} (ho:formedO o=true) {l:List (S × Ty × Bool)} (hl:l.Sublist (tripO o)) {r:Ty} (hr:formedT r=true) (n:S) :
 (∃ p∈l,p.1=n∧fieldO (ofTrip l r) n=p.2)∨(fieldO (ofTrip l r) n=(r,false)∧∀ p∈l,p.1≠n):=by
 have e:tripO (ofTrip l r)=l:=by
  unfold tripO ofTrip
  simp only[Ob.names_mk,Ob.fields_mk,Ob.must_mk]
  rw[zip_map2,zip_map2]
  exact (List.map_congr_left fun p _=>rfl).trans (List.map_id l)
 have:=fieldO_cases (ofTrip l r) n
 rw[e] at this
 exact this
theorem fieldO_spare {o:Ob} (ho:formedO o=true) (n:S):fieldO (spareO o) n=fieldO o n:=by
 have fr:=(formedO_spec ho).2.2.2.1
 have ff:=(formedO_spec ho).2.2.2.2.1
 rw[spareO_eq]
 rcases fieldO_ofTrip ho (l:=(tripO o).filter fun p=>p.2.2||!sameT p.2.1 o.rest) List.filter_sublist fr n with ⟨p,hp,e1,e2⟩|⟨e,hn⟩
 ·have hm:=(List.mem_filter.1 hp).1
  rw[e2,← e1,fieldO_mem ho hm]
 ·rw[e]
  rcases fieldO_cases o n with ⟨q,hq,q1,q2⟩|⟨q,_⟩
  ·rw[q2]
   have hf:¬ (q.2.2||!sameT q.2.1 o.rest)=true:=fun hc=>hn q (List.mem_filter.2 ⟨hq,hc⟩) q1
   obtain⟨a,b,c⟩:=q
   simp only[Bool.or_eq_true,Bool.not_eq_true',not_or,Bool.not_eq_true,Bool.not_eq_false] at hf
   have hb:b∈o.fields:=by
    unfold tripO at hq
    exact (List.of_mem_zip (List.of_mem_zip hq).2).1
   have:=(sameT_iff (ff b hb) fr).1 hf.2
   show (o.rest,false)=(b,c)
   rw[this,hf.1]
  ·rw[q]
theorem in_spare {o:Ob} (ho:formedO o=true) {v:Val} (hv:formedV v=true) (h6:v.kind=6):inO (spareO o) v=inO o v:=by
 rw[Bool.eq_iff_iff,inO_field (formed_spareO ho) hv h6,inO_field ho hv h6]
 simp only[fieldO_spare ho]
theorem in_trim {N:Ty→Ty} (hN:∀ t,formedT t=true→formedT (N t)=true) (hI:∀ t,formedT t=true→∀ v,formedV v=true→inT t v=true→inT (N t) v=true) {o:Ob} (ho:formedO o=true) {v:Val} (hv:formedV v=true) (h6:v.kind=6) (h:inO o v=true):inO (trimO N o) v=true:=by
 have hs:=formed_spareO ho
 rw[← in_spare ho hv h6] at h
 have hf:=formed_trimO hN ho
 unfold trimO at hf ⊢
 generalize spareO o=p at *
 simp only at hf ⊢
 split
 ·exact h
 rename_i hlen
 rw[if_neg hlen] at hf
 obtain⟨h1,h2,h3,h4,h5,_⟩:=formedO_spec hs
 obtain⟨t1,t2,t3⟩:=trip_names h1 h2
 have hsum:formedT (sumL (p.rest::p.fields.drop 12))=true:=formed_sumL fun t ht=>by
  rcases List.mem_cons.1 ht with rfl|ht
  ·exact h4
  ·exact h5 t (List.mem_of_mem_drop ht)
 have e:Ob.mk (p.names.take 12) (p.fields.take 12) (p.must.take 12) (N (sumL (p.rest::p.fields.drop 12)))=ofTrip ((tripO p).take 12) (N (sumL (p.rest::p.fields.drop 12))):=by
  unfold ofTrip
  rw[List.map_take,List.map_take,List.map_take,t1,t2,t3]
 have fc:formedO (ofTrip ((tripO p).take 12) (N (sumL (p.rest::p.fields.drop 12))))=true:=formed_trip hs (List.take_sublist _ _) (hN _ hsum)
 rw[e] at hf ⊢
 rw[in_spare fc hv h6,inO_field fc hv h6]
 rw[inO_field hs hv h6] at h
 intro n
 rcases fieldO_ofTrip hs (l:=(tripO p).take 12) (List.take_sublist _ _) (hN _ hsum) n with ⟨q,hq,q1,q2⟩|⟨q,hn⟩
 ·rw[q2,← fieldO_mem hs (List.mem_of_mem_take hq),q1]
  exact h n
 ·rw[q]
  refine⟨fun x hx=>?_,fun _=>rfl⟩
  have hxf:formedV x=true:=(formedV_spec hv).2.2.2.2 x (List.of_mem_zip (getV_zip hx)).2
  refine hI _ hsum x hxf (in_sumL ?_ ((h n).1 x hx))
  rcases fieldO_cases p n with ⟨r,hr,r1,r2⟩|⟨r,_⟩
  ·rw[r2]
   refine List.mem_cons_of_mem _ ?_
   have hr' : r∈(tripO p).drop 12:=by
    rw[← List.take_append_drop 12 (tripO p)] at hr
    rcases List.mem_append.1 hr with k|k
    ·exact absurd r1 (hn r k)
    ·exact k
   rw[← t2,← List.map_drop]
   exact List.mem_map.2 ⟨r,hr',rfl⟩
  ·rw[r]; exact List.mem_cons_self
theorem fieldO_map {N:Ty→Ty} {o:Ob} (n:S):fieldO (.mk o.names (o.fields.map N) o.must (N o.rest)) n=(N (fieldO o n).1,(fieldO o n).2):=by
 unfold fieldO
 simp only[Ob.names_mk,Ob.fields_mk,Ob.must_mk,Ob.rest_mk]
 have:o.names.zip ((o.fields.map N).zip o.must)=(o.names.zip (o.fields.zip o.must)).map fun p=>(p.1,N p.2.1,p.2.2):=by
  have h1:(o.fields.map N).zip o.must=(o.fields.zip o.must).map fun q=>(N q.1,q.2):=by
   rw[List.zip_map_left]; rfl
  rw[h1,List.zip_map_right]; rfl
 rw[this,List.find?_map]
 have e:((fun p:S × Ty × Bool=>sEq p.1 n)∘fun p:S × Ty × Bool=>(p.1,N p.2.1,p.2.2))=fun p=>sEq p.1 n:=rfl
 rw[e]
 cases (o.names.zip (o.fields.zip o.must)).find? (fun p=>sEq p.1 n)<;>rfl
theorem formed_mapO {N:Ty→Ty} (hN:∀ t,formedT t=true→formedT (N t)=true) (hv' : ∀ t,formedT t=true→never (N t)=never t) {o:Ob} (ho:formedO o=true):formedO (.mk o.names (o.fields.map N) o.must (N o.rest))=true:=by
 obtain⟨h1,h2,h3,h4,h5,h6⟩:=formedO_spec ho
 refine formedO_intro (by simpa using h1) h2 h3 (hN _ h4) (fun f hf=>?_) (fun p hp hm=>?_)
 ·obtain⟨g,hg,rfl⟩:=List.mem_map.1 (show f∈o.fields.map N from hf)
  exact hN _ (h5 g hg)
 ·have hp:p∈(o.fields.map N).zip o.must:=hp
  rw[List.zip_map_left] at hp
  obtain⟨q,hq,rfl⟩:=List.mem_map.1 hp
  have:=h6 q hq hm
  show never (N q.1)=false
  rw[hv' _ (h5 _ (List.of_mem_zip hq).1)]; exact this
theorem in_object {N:Ty→Ty} (hN:∀ t,formedT t=true→formedT (N t)=true) (hv' : ∀ t,formedT t=true→never (N t)=never t) (hI:∀ t,formedT t=true→∀ v,formedV v=true→inT t v=true→inT (N t) v=true) {o:Ob} (ho:formedO o=true) {v:Val} (hv:formedV v=true) (h6:v.kind=6) (h:inO o v=true):inO (objectO N o) v=true:=by
 have fm:=formed_mapO hN hv' ho
 refine in_trim hN hI fm hv h6 ?_
 rw[inO_field fm hv h6]
 rw[inO_field ho hv h6] at h
 intro n
 rw[fieldO_map (N:=N) n]
 refine⟨fun x hx=>hI _ (fieldO_formed ho n).1 x ((formedV_spec hv).2.2.2.2 x (List.of_mem_zip (getV_zip hx)).2) ((h n).1 x hx),(h n).2⟩
theorem in_outer {v:Val} (hv:formedV v=true) (h6:v.kind=6):∀ (l kept:List Ob),(∀ o∈kept,formedO o=true)→(∀ o∈l,formedO o=true)→(kept++l).any (inO · v)=true→(outerO kept l).any (inO · v)=true
 | [],kept,_,_,h=>by rw[outerO_nil]; simpa using h
 | o::l,kept,hk,hl,h=>by
   rw[outerO_cons]
   have ho:=hl o (by simp)
   have hl' : ∀ x∈l,formedO x=true:=fun x hx=>hl x (by simp[hx])
   split
   ·rename_i hc
    refine in_outer hv h6 l kept hk hl' ?_
    simp only[List.any_append,List.any_cons,Bool.or_eq_true] at h hc ⊢
    rcases h with h|h|h
    ·exact .inl h
    ·rcases hc with hc|hc
     ·obtain⟨x,hx,hb⟩:=List.any_eq_true.1 hc
      exact .inl (List.any_eq_true.2 ⟨x,hx,belowO_in ho (hk x hx) hv h6 hb h⟩)
     ·obtain⟨x,hx,hb⟩:=List.any_eq_true.1 hc
      exact .inr (List.any_eq_true.2 ⟨x,hx,belowO_in ho (hl' x hx) hv h6 hb h⟩)
    ·exact .inr h
   ·refine in_outer hv h6 l _ (fun x hx=>?_) hl' ?_
    ·rcases List.mem_append.1 hx with k|k
     ·exact hk x k
     ·rw[List.mem_singleton.1 k]; exact ho
    ·simpa[List.any_append,Bool.or_assoc] using h
theorem in_row {l:List Ob} (hl:∀ o∈l,formedO o=true) {v:Val} (h:l.any (inO · v)=true):(rowO l).any (inO · v)=true:=by
 obtain⟨o,ho,hi⟩:=List.any_eq_true.1 h
 exact List.any_eq_true.2 ⟨o,(mem_rowO hl).2 ho,hi⟩
theorem in_objects {N:Ty→Ty} (hN:∀ t,formedT t=true→formedT (N t)=true) (hv' : ∀ t,formedT t=true→never (N t)=never t)
 (hI:∀ t,formedT t=true→∀ v,formedV v=true→inT t v=true→inT (N t) v=true) {l:List Ob} (hl:∀ o∈l,formedO o=true) {v:Val} (hv:formedV v=true) (h6:v.kind=6) (h:l.any (inO · v)=true):(objectsO N l).any (inO · v)=true:=by
 have hrow:∀ o∈rowO l,formedO o=true:=fun o ho=>hl o ((mem_rowO hl).1 ho)
 have h1:=in_outer hv h6 (rowO l) [] (by simp) hrow (by simpa using in_row hl h)
 have hout:∀ o∈outerO [] (rowO l),formedO o=true:=fun o ho=>by
  rcases outerO_sub _ _ o ho with k|k
  ·cases k
  ·exact hrow o k
 unfold objectsO
 generalize outerO [] (rowO l)=row at *
 simp only
 split
 ·exact h1
 rename_i hlen
 have hd:∀ o∈row.drop 3,formedO o=true:=fun o ho=>hout o (List.mem_of_mem_drop ho)
 have hd0:row.drop 3≠[]:=fun e=>by
  have:=congrArg List.length e
  rw[List.length_drop] at this
  simp at this; omega
 have fo:=formed_oneO hd hd0
 have hall:∀ o∈row.take 3++[objectO N (oneO (row.drop 3))],formedO o=true:=fun o ho=>by
  rcases List.mem_append.1 ho with k|k
  ·exact hout o (List.mem_of_mem_take k)
  ·rw[List.mem_singleton.1 k]; exact formed_objectO hN hv' fo
 refine in_outer hv h6 _ [] (by simp) (fun o ho=>hall o ((mem_rowO hall).1 ho)) ?_
 rw[List.nil_append]
 refine in_row hall ?_
 rw[← List.take_append_drop 3 row,List.any_append,Bool.or_eq_true] at h1
 rw[List.any_append,Bool.or_eq_true]
 rcases h1 with k|k
 ·exact .inl k
 ·right
  obtain⟨o,ho,hi⟩:=List.any_eq_true.1 k
  simp[in_object hN hv' hI fo hv h6 (in_oneO hd hv h6 ho hi)]
theorem in_fin {t:Ty} {az:List Arr} {os:List Ob} {v:Val} (hv:formedV v=true) (ha:t.all=false) (h:inT t v=true)
 (hA:headB (inA · v) t.arrays=true→headB (inA · v) az=true) (hO:v.kind=6→t.objects.any (inO · v)=true→os.any (inO · v)=true):inT (finT t az os) v=true:=by
 rcases finT_cases t az os with e|e
 ·rw[e]; exact in_every v
 obtain⟨v1,v2,_⟩:=formedV_spec hv
 rw[e]
 rw[inT_def,ha,Bool.false_or] at h
 rw[inT_def]
 simp only[Ty.all_mk,Ty.null_mk,Ty.fls_mk,Ty.tru_mk,Ty.nums_mk,Ty.any_mk,Ty.texts_mk,Ty.arrays_mk,Ty.objects_mk,Bool.false_or]
 by_cases k0:v.kind=0
 ·simpa only[if_pos k0] using h
 by_cases k1:v.kind=1
 ·simpa only[if_neg k0,if_pos k1] using h
 by_cases k2:v.kind=2
 ·simpa only[if_neg k0,if_neg k1,if_pos k2] using h
 by_cases k3:v.kind=3
 ·simpa only[if_neg k0,if_neg k1,if_neg k2,if_pos k3] using h
 by_cases k4:v.kind=4
 ·simp only[if_neg k0,if_neg k1,if_neg k2,if_neg k3,if_pos k4] at h ⊢
  by_cases k:16<t.texts.length
  ·simp[k]
  ·simpa[k] using h
 by_cases k5:v.kind=5
 ·simp only[if_neg k0,if_neg k1,if_neg k2,if_neg k3,if_neg k4,if_pos k5] at h ⊢
  exact hA h
 ·simp only[if_neg k0,if_neg k1,if_neg k2,if_neg k3,if_neg k4,if_neg k5] at h ⊢
  exact hO (by omega) h
theorem in_normal:∀ (h:Nat) (t:Ty),formedT t=true→∀ v,formedV v=true→inT t v=true→inT (normalT h t) v=true:=by
 intro h
 induction h with
 | zero =>
   intro t ht v hv hi
   rw[normalT_zero]
   split
   ·exact in_every v
   ·rename_i hc
    simp only[Bool.or_eq_true,not_or,Bool.not_eq_true,Bool.not_eq_false',List.isEmpty_iff] at hc
    exact in_fin hv hc.1.1 hi (fun k=>by rw[hc.1.2] at k; exact k) (fun _ k=>by rw[hc.2] at k; exact k)
 | succ h ih =>
   intro t ht v hv hi
   rw[normalT_succ]
   split
   ·exact in_every v
   ·rename_i hc
    obtain⟨f1,f2,f3,f4,f5,f6,f7,f8⟩:=formedT_spec ht
    refine in_fin hv (by simpa using hc) hi (fun k=>?_) (fun h6 k=>?_)
    ·cases ha:t.arrays with
     | nil=>rw[ha] at k; cases k
     | cons x az =>
       rw[ha] at k
       obtain⟨c1,c2,c3⟩:=inA_iff.1 k
       have fx:=formedA_spec (f7 x (by rw[ha]; simp))
       exact inA_iff.2 ⟨c1,c2,fun u hu=>ih _ fx.2.2.2.1 u ((formedV_spec hv).2.2.2.2 u hu) (c3 u hu)⟩
    ·have hN:=formed_normalT h
     have hn:∀ t,formedT t=true→never (normalT h t)=never t:=fun t ht=>never_normalT h t ht
     obtain⟨o,ho,hio⟩:=List.any_eq_true.1 k
     refine in_objects hN hn ih (fun o ho=>?_) hv h6 (List.any_eq_true.2 ⟨_,List.mem_map.2 ⟨o,ho,rfl⟩,in_object hN hn ih (f8 o ho) hv h6 hio⟩)
     obtain⟨x,hx,rfl⟩:=List.mem_map.1 ho
     exact formed_objectO hN hn (f8 x hx)
theorem in_form {t:Ty} (ht:formedT t=true) {v:Val} (hv:formedV v=true) (h:inT t v=true):inT (formT t) v=true:=by
 obtain⟨k,-,e⟩:=formT_is t
 rw[e]; exact in_normal k t ht v hv h
end Go.Tidy

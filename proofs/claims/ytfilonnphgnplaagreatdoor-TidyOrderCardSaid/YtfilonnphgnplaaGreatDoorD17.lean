/- Part 17. -/
import Derived.ProofKit
import Derived.Test.YtfilonnphgnplaaGreatDoorD16
import Derived.Lib.LaidU8
import Derived.Lib.LaidU8T
import Derived.PinnedBridge
set_option linter.unusedSimpArgs false
set_option linter.unusedVariables false
namespace Go.Proofs.YtfilonnphgnplaaGreatDoor.Pv
open Go Go.Tidy Go.RowKit
def flds (P:Program) (t:TypeId):Option (List (TypeId × Nat)):=match P.underlying t with
 | some (.struct fs)=>some (fs.toList.map fun f=>(f.type,f.offset))
 | _=>none
structure Tys (P:Program):Prop where
 b:P.underlying 4=some .bool
 i:P.underlying 3=some (.int .i64)
 s:P.underlying 9=some .string
 l25:P.underlying 25=some (.slice 106)
 l26:P.underlying 26=some (.slice 9)
 l27:P.underlying 27=some (.slice 98)
 l28:P.underlying 28=some (.slice 57)
 l54:P.underlying 54=some (.slice 30)
 l55:P.underlying 55=some (.slice 4)
 c:∀ e∈[4,3,9,25,26,27,28,54,55],P.cellsOf e=1
 c30:P.cellsOf 30=9
 c57:P.cellsOf 57=12
 c98:P.cellsOf 98=11
 c106:P.cellsOf 106=2
 ty:flds P 30=some [(4,0),(4,1),(4,2),(4,3),(25,4),(4,5),(26,6),(27,7),(28,8)]
 ob:flds P 57=some [(26,0),(54,1),(55,2),(30,3)]
 ar:flds P 98=some [(30,0),(3,9),(3,10)]
 sp:flds P 106=some [(9,0),(9,1)]
 bytes:∀ e∈[106,9,98,57,30,4],1≤P.bytesOf e
def wOk {H:Type} (P:Program) (t:TypeId) (d:DataW H):Prop:=∀ n∈d.weights P t,n≤reachBytes
section
variable {H:Type} {enc:TypeId × Value→H} {P:Program} {W:World}
abbrev allF (W:World):Nat→Prop:=fun b=>b<W.heap.size
def RdOk (enc:TypeId × Value→H) (P:Program) (W:World) (k:Nat) (t:TypeId) {α:Type} (f:α→List PV):Prop :=
 ∀ cs d ps,DataW.trod enc P W 0 (fun _=>true) true k t cs=some (d,ps)→wOk P t d→∃ x:α,RepL W (dctx (allF W)) (f x) cs∧∀ u∈cs,u.oneCell'=true
theorem rd_zero {t:TypeId} {α:Type} {f:α→List PV}:RdOk enc P W 0 t f:=fun cs d ps h _=>by simp[DataW.trod] at h
theorem rep_one {c:Ctx} {x:PV} {v:Value} (h:RepV W c x v):RepL W c [x] [v]:=⟨v,[],rfl,h,rfl⟩
theorem rep_app {c:Ctx}:∀ {xs:List PV} {vs:List Value} {ys:List PV} {us:List Value},RepL W c xs vs→RepL W c ys us→RepL W c (xs++ys) (vs++us)
 | [],vs,ys,us,h,k=>by
   have e:vs=[]:=h
   rw[e]; exact k
 | x::xs,vs,ys,us,⟨u,us',e,h1,h2⟩,k=>by
   rw[e]
   exact⟨u,us'++us,rfl,h1,rep_app h2 k⟩
theorem rd_bool {t:TypeId} (ht:P.underlying t=some .bool):∀ k,RdOk enc P W k t encBool
 | 0=>rd_zero
 | k+1=>fun cs d ps h _=>by
   unfold DataW.trod at h
   rw[ht] at h
   simp only at h
   split at h
   all_goals (first|(cases h; done)|skip)
   all_goals (simp only[reduceCtorEq,Option.some.injEq] at *)
   rename_i b _
   exact⟨b,rep_one rfl,by simp[Value.oneCell']⟩
theorem rd_str {t:TypeId} (ht:P.underlying t=some .string):∀ k,RdOk enc P W k t encStr
 | 0=>rd_zero
 | k+1=>fun cs d ps h hw=>by
   unfold DataW.trod at h
   rw[ht] at h
   simp only at h
   split at h
   all_goals (first|(cases h; done)|skip)
   all_goals (simp only[reduceCtorEq,Option.some.injEq] at *)
   rename_i s _
   split at h
   ·cases h
    refine⟨s,rep_one ⟨rfl,?_⟩,by simp[Value.oneCell']⟩
    have:=hw s.data.toList.length (by unfold DataW.weights; exact List.mem_singleton.2 rfl)
    have e:s.size=s.data.toList.length:=rfl
    rw[e]
    unfold LIM
    unfold reachBytes at this
    omega
   ·cases h
theorem rd_int {t:TypeId} (ht:P.underlying t=some (.int .i64)):∀ k,RdOk enc P W k t fun n:Int=>[PV.int .i64 n]
 | 0=>rd_zero
 | k+1=>fun cs d ps h hw=>by
   unfold DataW.trod at h
   rw[ht] at h
   simp only at h
   split at h
   all_goals (first|(cases h; done)|skip)
   all_goals (simp only[reduceCtorEq,Option.some.injEq,TypeDesc.int.injEq] at *)
   rename_i k1 k2 n e
   subst e
   split at h
   ·rename_i hh
    obtain⟨rfl,hh⟩:=hh
    refine⟨n,rep_one ⟨rfl,?_⟩,by simp[Value.oneCell']⟩
    simpa[Lit.wf] using hh
   ·cases h
theorem mapM_some {α β:Type} {f:α→Option β}:∀ {l:List α} {xs:List β},l.mapM f=some xs→xs.length=l.length∧∀ i (h:i<l.length),∃ x,xs[i]? = some x∧f l[i]=some x
 | [],xs,h=>by
   simp at h; subst h
   exact⟨rfl,fun i h=>absurd h (by simp)⟩
 | a::l,xs,h=>by
   simp only[List.mapM_cons,Option.pure_def,Option.bind_eq_bind,Option.bind_eq_some_iff,Option.some.injEq] at h
   obtain⟨x,h1,ys,h2,rfl⟩:=h
   obtain⟨h3,h4⟩:=mapM_some h2
   refine⟨by simp[h3],fun i hi=>?_⟩
   cases i with
   | zero=>exact⟨x,rfl,h1⟩
   | succ i =>
     obtain⟨y,k1,k2⟩:=h4 i (by simpa using hi)
     exact⟨y,by simpa using k1,by simpa using k2⟩
theorem each_mem {P:Program}:∀ {ts:List TypeId} {ds:List (DataW H)} {i:Nat} {t:TypeId} {d:DataW H} {n:Nat},ts[i]? = some t→ds[i]? = some d→n∈d.weights P t→n∈DataW.weightsEach P ts ds
 | [],_,_,_,_,_,h,_,_=>by simp at h
 | _::_,[],_,_,_,_,_,h,_=>by simp at h
 | t::ts,d::ds,0,t',d',n,h1,h2,h3=>by
   simp only[List.getElem?_cons_zero,Option.some.injEq] at h1 h2
   subst h1 h2
   simp only[DataW.weightsEach,List.mem_append]; exact .inl h3
 | t::ts,d::ds,i+1,t',d',n,h1,h2,h3=>by
   simp only[List.getElem?_cons_succ] at h1 h2
   simp only[DataW.weightsEach,List.mem_append]; exact .inr (each_mem h1 h2 h3)
theorem all_mem {P:Program} {e:TypeId} {d:DataW H} {n:Nat}:∀ {ds:List (DataW H)},d∈ds→n∈d.weights P e→n∈DataW.weightsAll P e ds
 | [],h,_=>by simp at h
 | d'::ds,h,k=>by
   simp only[DataW.weightsAll,List.mem_append]
   rcases List.mem_cons.1 h with rfl|h
   ·exact .inl k
   ·exact .inr (all_mem h k)
theorem rd_struct {k:Nat} {t:TypeId} {fl:List (TypeId × Nat)} {cs:List Value} {d:DataW H} {ps:List MemPlace} (hf:flds P t=some fl) (h:DataW.trod enc P W 0 (fun _=>true) true (k+1) t cs=some (d,ps)) (hw:wOk P t d) :
 cs.length=P.cellsOf t∧∀ (i:Nat) (ty off:Nat),fl[i]? = some (ty,off)→∃ di pi,DataW.trod enc P W 0 (fun _=>true) true k ty ((cs.drop off).take (P.cellsOf ty))=some (di,pi)∧wOk P ty di:=by
 unfold flds at hf
 split at hf
 ·rename_i fs hfs
  cases hf
  unfold DataW.trod at h
  rw[hfs] at h
  simp only at h
  split at h
  ·rename_i hl
   simp only[Option.map_eq_some_iff] at h
   obtain⟨xs,h1,h2⟩:=h
   cases h2
   obtain⟨h3,h4⟩:=mapM_some h1
   refine⟨hl,fun i ty off hi=>?_⟩
   rw[List.getElem?_map,Option.map_eq_some_iff] at hi
   obtain⟨f,hi,e⟩:=hi
   cases e
   obtain⟨hlt,hi⟩:=List.getElem?_eq_some_iff.1 hi
   obtain⟨x,k1,k2⟩:=h4 i hlt
   rw[hi] at k2
   refine⟨x.1,x.2,k2,fun n hn=>hw n ?_⟩
   simp only[DataW.weights,hfs]
   refine each_mem (i:=i) (t:=f.type) (d:=x.1) ?_ ?_ hn
   ·rw[List.getElem?_map,List.getElem?_eq_getElem hlt,hi]; rfl
   ·rw[List.getElem?_map,k1]; rfl
  ·cases h
 ·cases hf
theorem rep_at {c:Ctx} {b:Nat}:∀ {row:List PV} {o:Nat} {cs:List Value},RepL W c row cs→(∀ u∈cs,u.oneCell'=true)→(∀ j,j<cs.length→W.cell? ⟨b,o+j,none⟩=cs[j]?)→RepAt W c b o row
 | [],_,_,_,_,_=>trivial
 | x::row,o,cs,⟨u,us,e,h1,h2⟩,ho,hc=>by
   subst e
   refine⟨⟨u,by have:=hc 0 (by simp); simpa using this,ho u (by simp),h1⟩,rep_at h2 (fun y hy=>ho y (by simp[hy])) fun j hj=>?_⟩
   have:=hc (j+1) (by simpa using hj)
   simp only[List.getElem?_cons_succ] at this
   rw[← this,show o+1+j=o+(j+1) by omega]
theorem rep_len {c:Ctx}:∀ {row:List PV} {cs:List Value},RepL W c row cs→row.length=cs.length
 | [],cs,h=>by
   have e:cs=[]:=h
   rw[e]; rfl
 | x::row,cs,⟨u,us,e,h1,h2⟩=>by rw[e]; simp[rep_len h2]
theorem rd_slice {k:Nat} {t e:TypeId} {esz:Nat} {α:Type} {f:α→List PV} (ht:P.underlying t=some (.slice e)) (hc:P.cellsOf e=esz) (he:0<esz) (hb:1≤P.bytesOf e) (h:RdOk enc P W k e f):RdOk enc P W (k+1) t fun l:List α=>[PV.vec esz false (l.map f)]:=by
 intro cs d ps hr hw
 unfold DataW.trod at hr
 rw[ht] at hr
 simp only at hr
 split at hr
 all_goals (first|(cases hr; done)|skip)
 all_goals (simp only[reduceCtorEq,Option.some.injEq,TypeDesc.slice.injEq] at *)
 ·exact⟨[],rep_one ⟨none,0,rfl,by simp,by omega,by simp[LIM],by simp,.inl rfl⟩,by simp[Value.oneCell']⟩
 ·rename_i e' a len cap ee
  subst ee
  split at hr
  ·rename_i hh
   obtain⟨_,hlc,hcm⟩:=hh
   simp only[Option.bind_eq_some_iff,Option.map_eq_some_iff] at hr
   obtain⟨els,h1,rest,h2,h3⟩:=hr
   cases h3
   obtain⟨h4,h5⟩:=mapM_some h1
   rw[List.length_range] at h4
   have hlim:len≤LIM:=by
    have:=hw ((els.length+rest.length)*P.bytesOf e) (by simp[DataW.weights,ht])
    have h6:els.length+rest.length≤(els.length+rest.length)*P.bytesOf e:=Nat.le_mul_of_pos_right _ hb
    unfold LIM
    unfold reachBytes at this
    omega
   have hel:∀ i,i<len→∃ x:α,∃ cs:List Value,RepL W (dctx (allF W)) (f x) cs∧(∀ u∈cs,u.oneCell'=true)∧W.cells? 0 (a.add (i*esz)) esz=some cs:=fun i hi=>by
    obtain⟨y,k1,k2⟩:=h5 i (by simpa using hi)
    simp only[List.getElem_range,Option.bind_eq_some_iff,hc] at k2
    obtain⟨cs,k3,k4⟩:=k2
    obtain⟨x,k5,k6⟩:=h cs y.1 y.2 k4 (fun n hn=>hw n (by
     simp only[DataW.weights,ht,List.mem_cons,List.mem_append]
     exact .inr (.inl (all_mem (List.mem_map.2 ⟨y,List.mem_of_getElem? k1,rfl⟩) hn))))
    exact⟨x,cs,k5,k6,k3⟩
   have hz:0<len→∃ v,W.cell? a=some v:=fun h0=>by
    obtain⟨x,cs,r1,r2,r3⟩:=hel 0 h0
    obtain⟨_,r4,r5⟩:=World.cells?_some r3
    have h7:=r5 0 he
    rw[List.getElem?_eq_getElem (show 0<cs.length by rw[r4]; exact he)] at h7
    refine⟨_,Eq.trans ?_ h7⟩
    simp[Addr.add]
   have hspot:0<len→a.spot=none:=fun h0=>by
    obtain⟨v,h7⟩:=hz h0
    cases hs:a.spot with
    | none=>rfl
    | some s =>
      unfold World.cell? at h7
      split at h7
      ·simp[hs] at h7
      ·cases h7
   have key:∀ m,m≤len→∃ l:List α,l.length=m∧RepRows W (dctx (allF W)) esz a.block (a.off+(len-m)*esz) (l.map f):=by
    intro m
    induction m with
    | zero=>exact fun _=>⟨[],rfl,trivial⟩
    | succ m ih =>
      intro hm
      obtain⟨l,l1,l2⟩:=ih (by omega)
      obtain⟨x,cs,r1,r2,r3⟩:=hel (len-(m+1)) (by omega)
      obtain⟨_,r4,r5⟩:=World.cells?_some r3
      refine⟨x::l,by simp[l1],(rep_len r1).trans r4,rep_at r1 r2 fun j hj=>?_,?_⟩
      ·have h7:=r5 j (by omega)
       rw[← h7]
       have hs:=hspot (by omega)
       obtain⟨ab,ao,asp⟩:=a
       simp only at hs
       subst hs
       congr 1
       simp only[Addr.add]
       split<;>split<;>simp_all<;>omega
      ·have e:a.off+(len-(m+1))*esz+esz=a.off+(len-m)*esz:=by
          have:len-m=(len-(m+1))+1:=by omega
          rw[this,Nat.succ_mul]; omega
       rw[e]; exact l2
   obtain⟨l,l1,l2⟩:=key len (Nat.le_refl _)
   refine⟨l,rep_one ⟨some a,cap,by simp[l1],by simpa[l1] using hlc,by unfold maxLen at hcm; omega,by simpa[l1] using hlim,by simp,?_⟩,by simp[Value.oneCell']⟩
   by_cases h0:len=0
   ·left
    have:l=[]:=List.length_eq_zero_iff.1 (by omega)
    simp[this]
   ·right
    obtain⟨v,h7⟩:=hz (by omega)
    refine⟨a,rfl,hspot (by omega),?_,?_⟩
    ·show a.block<W.heap.size
     unfold World.cell? at h7
     split at h7
     ·rename_i hb'
      exact (Array.getElem?_eq_some_iff.1 hb').1
     ·cases h7
    ·rw[Nat.sub_self,Nat.zero_mul,Nat.add_zero] at l2
     exact l2
  ·cases hr
theorem rd_span (T:Tys P) (k:Nat):RdOk enc P W k 106 encSpan:=by
 cases k with
 | zero=>exact rd_zero
 | succ k =>
   intro cs d ps h hw
   obtain⟨hl,hf⟩:=rd_struct T.sp h hw
   rw[T.c106] at hl
   match cs,hl with
   | [c0,c1],_ =>
     obtain⟨d0,p0,f0,w0⟩:=hf 0 9 0 rfl
     obtain⟨d1,p1,f1,w1⟩:=hf 1 9 1 rfl
     rw[T.c 9 (by decide)] at f0 f1
     obtain⟨a,a1,a2⟩:=rd_str T.s k _ _ _ f0 w0
     obtain⟨b,b1,b2⟩:=rd_str T.s k _ _ _ f1 w1
     refine⟨⟨a,b⟩,rep_app (xs:=encStr a) (vs:=[c0]) a1 (ys:=encStr b) (us:=[c1]) b1,fun u hu=>?_⟩
     simp only[List.mem_cons,List.not_mem_nil,or_false] at hu
     rcases hu with rfl|rfl
     ·exact a2 _ (by simp)
     ·exact b2 _ (by simp)
theorem rd_arr (T:Tys P) (k:Nat) (h30:RdOk enc P W k 30 encTy):RdOk enc P W (k+1) 98 encArr:=by
 intro cs d ps h hw
 obtain⟨hl,hf⟩:=rd_struct T.ar h hw
 rw[T.c98] at hl
 obtain⟨d0,p0,f0,w0⟩:=hf 0 30 0 rfl
 obtain⟨d1,p1,f1,w1⟩:=hf 1 3 9 rfl
 obtain⟨d2,p2,f2,w2⟩:=hf 2 3 10 rfl
 rw[T.c30] at f0
 rw[T.c 3 (by decide)] at f1 f2
 obtain⟨t,a1,a2⟩:=h30 _ _ _ f0 w0
 obtain⟨lo,b1,b2⟩:=rd_int T.i k _ _ _ f1 w1
 obtain⟨hi,e1,e2⟩:=rd_int T.i k _ _ _ f2 w2
 have e:cs=(cs.drop 0).take 9++((cs.drop 9).take 1++(cs.drop 10).take 1):=by
  match cs,hl with
  | [c0,c1,c2,c3,c4,c5,c6,c7,c8,c9,c10],_=>rfl
 refine⟨.mk t lo hi,?_,fun u hu=>?_⟩
 ·rw[e]
  exact rep_app a1 (rep_app (xs:=[.int .i64 lo]) b1 (ys:=[.int .i64 hi]) e1)
 ·rw[e] at hu
  simp only[List.mem_append] at hu
  rcases hu with hu|hu|hu
  ·exact a2 _ hu
  ·exact b2 _ hu
  ·exact e2 _ hu
theorem rd_obj (T:Tys P) (k:Nat) (h30:∀ j,j≤k→RdOk enc P W j 30 encTy):RdOk enc P W (k+1) 57 encObj:=by
 intro cs d ps h hw
 obtain⟨hl,hf⟩:=rd_struct T.ob h hw
 rw[T.c57] at hl
 cases k with
 | zero =>
   obtain⟨d0,p0,f0,w0⟩:=hf 0 26 0 rfl
   simp[DataW.trod] at f0
 | succ k =>
   obtain⟨d0,p0,f0,w0⟩:=hf 0 26 0 rfl
   obtain⟨d1,p1,f1,w1⟩:=hf 1 54 1 rfl
   obtain⟨d2,p2,f2,w2⟩:=hf 2 55 2 rfl
   obtain⟨d3,p3,f3,w3⟩:=hf 3 30 3 rfl
   rw[T.c 26 (by decide)] at f0
   rw[T.c 54 (by decide)] at f1
   rw[T.c 55 (by decide)] at f2
   rw[T.c30] at f3
   obtain⟨ns,a1,a2⟩:=rd_slice T.l26 (T.c 9 (by decide)) (by omega) (T.bytes 9 (by decide)) (rd_str T.s k) _ _ _ f0 w0
   obtain⟨fs,b1,b2⟩:=rd_slice T.l54 T.c30 (by omega) (T.bytes 30 (by decide)) (h30 k (by omega)) _ _ _ f1 w1
   obtain⟨ms,e1,e2⟩:=rd_slice T.l55 (T.c 4 (by decide)) (by omega) (T.bytes 4 (by decide)) (rd_bool T.b k) _ _ _ f2 w2
   obtain⟨r,g1,g2⟩:=h30 _ (Nat.le_refl _) _ _ _ f3 w3
   have e:cs=(cs.drop 0).take 1++((cs.drop 1).take 1++((cs.drop 2).take 1++(cs.drop 3).take 9)):=by
    match cs,hl with
    | [c0,c1,c2,c3,c4,c5,c6,c7,c8,c9,c10,c11],_=>rfl
   refine⟨.mk ns fs ms r,?_,fun u hu=>?_⟩
   ·rw[e]
    simp only[encObj,encTys_map]
    exact rep_app (xs:=[_]) a1 (rep_app (xs:=[_]) b1 (rep_app (xs:=[_]) e1 g1))
   ·rw[e] at hu
    simp only[List.mem_append] at hu
    rcases hu with hu|hu|hu|hu
    ·exact a2 _ hu
    ·exact b2 _ hu
    ·exact e2 _ hu
    ·exact g2 _ hu
theorem rd_ty (T:Tys P):∀ n k:Nat,k≤n→RdOk enc P W k 30 encTy:=by
 intro n
 induction n with
 | zero =>
   intro k hk
   obtain rfl:k=0:=by omega
   exact rd_zero
 | succ n ih =>
   intro k hk
   match k with
   | 0=>exact rd_zero
   | 1 =>
     intro cs d ps h hw
     obtain⟨hl,hf⟩:=rd_struct T.ty h hw
     obtain⟨d0,p0,f0,w0⟩:=hf 0 4 0 rfl
     simp[DataW.trod] at f0
   | k+2 =>
     intro cs d ps h hw
     obtain⟨hl,hf⟩:=rd_struct T.ty h hw
     rw[T.c30] at hl
     obtain⟨d0,p0,f0,w0⟩:=hf 0 4 0 rfl
     obtain⟨d1,p1,f1,w1⟩:=hf 1 4 1 rfl
     obtain⟨d2,p2,f2,w2⟩:=hf 2 4 2 rfl
     obtain⟨d3,p3,f3,w3⟩:=hf 3 4 3 rfl
     obtain⟨d4,p4,f4,w4⟩:=hf 4 25 4 rfl
     obtain⟨d5,p5,f5,w5⟩:=hf 5 4 5 rfl
     obtain⟨d6,p6,f6,w6⟩:=hf 6 26 6 rfl
     obtain⟨d7,p7,f7,w7⟩:=hf 7 27 7 rfl
     obtain⟨d8,p8,f8,w8⟩:=hf 8 28 8 rfl
     rw[T.c 4 (by decide)] at f0 f1 f2 f3 f5
     rw[T.c 25 (by decide)] at f4
     rw[T.c 26 (by decide)] at f6
     rw[T.c 27 (by decide)] at f7
     rw[T.c 28 (by decide)] at f8
     obtain⟨a0,r0,o0⟩:=rd_bool T.b (k+1) _ _ _ f0 w0
     obtain⟨a1,r1,o1⟩:=rd_bool T.b (k+1) _ _ _ f1 w1
     obtain⟨a2,r2,o2⟩:=rd_bool T.b (k+1) _ _ _ f2 w2
     obtain⟨a3,r3,o3⟩:=rd_bool T.b (k+1) _ _ _ f3 w3
     obtain⟨a4,r4,o4⟩:=rd_slice T.l25 T.c106 (by omega) (T.bytes 106 (by decide)) (rd_span T k) _ _ _ f4 w4
     obtain⟨a5,r5,o5⟩:=rd_bool T.b (k+1) _ _ _ f5 w5
     obtain⟨a6,r6,o6⟩:=rd_slice T.l26 (T.c 9 (by decide)) (by omega) (T.bytes 9 (by decide)) (rd_str T.s k) _ _ _ f6 w6
     have hA:RdOk enc P W k 98 encArr:=by
      cases k with
      | zero=>exact rd_zero
      | succ k=>exact rd_arr T k (ih k (by omega))
     have hO:RdOk enc P W k 57 encObj:=by
      cases k with
      | zero=>exact rd_zero
      | succ k=>exact rd_obj T k fun j hj=>ih j (by omega)
     obtain⟨a7,r7,o7⟩:=rd_slice T.l27 T.c98 (by omega) (T.bytes 98 (by decide)) hA _ _ _ f7 w7
     obtain⟨a8,r8,o8⟩:=rd_slice T.l28 T.c57 (by omega) (T.bytes 57 (by decide)) hO _ _ _ f8 w8
     have e:cs=(cs.drop 0).take 1++((cs.drop 1).take 1++((cs.drop 2).take 1++((cs.drop 3).take 1++((cs.drop 4).take 1++((cs.drop 5).take 1++((cs.drop 6).take 1++((cs.drop 7).take 1++(cs.drop 8).take 1))))))):=by
      match cs,hl with
      | [c0,c1,c2,c3,c4,c5,c6,c7,c8],_=>rfl
     refine⟨.mk a0 a1 a2 a3 a4 a5 a6 a7 a8,?_,fun u hu=>?_⟩
     ·rw[e]
      simp only[encTy,encArrs_map,encObjs_map]
      exact rep_app (xs:=[_]) r0 (rep_app (xs:=[_]) r1 (rep_app (xs:=[_]) r2 (rep_app (xs:=[_]) r3 (rep_app (xs:=[_]) r4 (rep_app (xs:=[_]) r5 (rep_app (xs:=[_]) r6 (rep_app (xs:=[_]) r7 r8)))))))
     ·rw[e] at hu
      simp only[List.mem_append] at hu
      rcases hu with hu|hu|hu|hu|hu|hu|hu|hu|hu
      ·exact o0 _ hu
      ·exact o1 _ hu
      ·exact o2 _ hu
      ·exact o3 _ hu
      ·exact o4 _ hu
      ·exact o5 _ hu
      ·exact o6 _ hu
      ·exact o7 _ hu
      ·exact o8 _ hu
theorem read_ty (T:Tys P) {v:Value} {d:DataW H} {ps:List MemPlace} {vs:Array Value} (hv:v=.agg vs) (h:DataW.Trod enc P W 0 (fun _=>true) true 30 v d ps) (hw:wOk P 30 d):∃ t:Go.Tidy.Ty,RepV W (dctx (allF W)) (.agg (cT t)) v:=by
 obtain⟨fuel,h⟩:=h
 subst hv
 obtain⟨t,h1,h2⟩:=rd_ty T fuel fuel (Nat.le_refl _) _ _ _ h hw
 rw[encTy_eq] at h1
 exact⟨t,vs,rfl,h1,h2⟩
end
end Go.Proofs.YtfilonnphgnplaaGreatDoor.Pv
namespace Go.Proofs.YtfilonnphgnplaaGreatDoor
open Go Go.ChangeShapes Go.WideShapes Go.ChangeAt Go.RowKit
theorem own:ownKnob Tryz.prog.godebug=none:=by kernel_rfl
theorem laidOut:laidOutB Tryz.prog=true:=by kernel_rfl
theorem tysOk:Pv.Tys Tryz.prog where
 b:=by kernel_rfl
 i:=by kernel_rfl
 s:=by kernel_rfl
 l25:=by kernel_rfl
 l26:=by kernel_rfl
 l27:=by kernel_rfl
 l28:=by kernel_rfl
 l54:=by kernel_rfl
 l55:=by kernel_rfl
 c:=by
   have h:([4,3,9,25,26,27,28,54,55].all fun e=>Tryz.prog.cellsOf e == 1)=true:=by kernel_rfl
   intro e he
   simpa using List.all_eq_true.1 h e he
 c30:=by kernel_rfl
 c57:=by kernel_rfl
 c98:=by kernel_rfl
 c106:=by kernel_rfl
 ty:=by kernel_rfl
 ob:=by kernel_rfl
 ar:=by kernel_rfl
 sp:=by kernel_rfl
 bytes:=by
  have h:([106,9,98,57,30,4].all fun e=>decide (1≤Tryz.prog.bytesOf e))=true:=by kernel_rfl
  intro e he
  simpa using List.all_eq_true.1 h e he
theorem u8x:U8Extra Tryz.prog Tryz.laysValid_ren:=⟨by kernel_rfl,by kernel_rfl,by kernel_rfl,by kernel_rfl,by kernel_rfl,by kernel_rfl,by kernel_rfl⟩
theorem gtab_all:((List.range Tryz.prog.globals.size).all fun g=>match Pv.gTab Tryz.prog g with
 | none=>true
 | some cs=>(g == Tryz.laysValid_ren.g 3&&cs == Pv.utf8First)||(g == Tryz.laysValid_ren.g 4&&cs == Pv.utf8Accept))=true:=by kernel_rfl
theorem gtab_cases {g:Nat} {cs:List Nat} (h:Pv.gTab Tryz.prog g=some cs):(g=Tryz.laysValid_ren.g 3∧cs=Pv.utf8First)∨(g=Tryz.laysValid_ren.g 4∧cs=Pv.utf8Accept):=by
 have hg:g<Tryz.prog.globals.size:=by
  have h2:=h
  unfold Pv.gTab at h2
  split at h2
  ·rename_i gl hgl
   exact (Array.getElem?_eq_some_iff.1 hgl).1
  ·cases h2
 have h3:=List.all_eq_true.1 gtab_all g (List.mem_range.2 hg)
 rw[h] at h3
 simp only[Bool.or_eq_true,Bool.and_eq_true,beq_iff_eq] at h3
 exact h3
theorem cell_lt {w:World} {g j:Nat} {v:Value} (h:w.cell? ⟨g,j,none⟩=some v):g<w.heap.size:=by
 unfold World.cell? at h
 split at h
 ·rename_i hb
  exact (Array.getElem?_eq_some_iff.1 hb).1
 ·cases h
theorem first_le:∀ c:Fin 256,Lib.firstT c.1≤255:=by decide +kernel
theorem accept_le:∀ i:Fin 16,Lib.accLo i.1≤255∧Lib.accHi i.1≤255:=by decide +kernel
theorem first_len:Pv.utf8First.length=256:=by kernel_rfl
theorem accept_len:Pv.utf8Accept.length=32:=by kernel_rfl
theorem gok_of {w:World} (hT:Lib.Utf8Tabs (Tryz.laysValid_ren.g 3) (Tryz.laysValid_ren.g 4) w):Pv.GOk Tryz.prog w (Pv.allF w):=by
 intro g cs hg
 rcases gtab_cases hg with ⟨e1,e2⟩|⟨e1,e2⟩
 ·have h0:=hT.1 0 (by omega)
  rw[← e1] at h0
  refine⟨cell_lt h0,cell_lt h0,fun j n hj=>?_⟩
  rw[e2] at hj
  have hl:j<256:=by
   have:=(List.getElem?_eq_some_iff.1 hj).1
   rw[first_len] at this; exact this
  have e:=Pv.first_at ⟨j,hl⟩
  rw[hj] at e
  have e:=Option.some.inj e
  rw[e,e1]
  exact⟨hT.1 j hl,first_le ⟨j,hl⟩⟩
 ·have h0:=(hT.2 0 (by omega)).1
  rw[← e1] at h0
  refine⟨cell_lt h0,cell_lt h0,fun j n hj=>?_⟩
  rw[e2] at hj
  have hl:j<32:=by
   have:=(List.getElem?_eq_some_iff.1 hj).1
   rw[accept_len] at this; exact this
  have hi:j / 2<16:=by omega
  rw[e1]
  by_cases hp:j % 2=0
  ·have ej:j=2*(j / 2):=by omega
   have e:=(Pv.accept_at ⟨j / 2,hi⟩).1
   simp only at e
   rw[← ej,hj] at e
   have e:=Option.some.inj e
   have h1:=(hT.2 (j / 2) hi).1
   rw[← ej] at h1
   rw[e]
   exact⟨h1,(accept_le ⟨j / 2,hi⟩).1⟩
  ·have ej:j=2*(j / 2)+1:=by omega
   have e:=(Pv.accept_at ⟨j / 2,hi⟩).2
   simp only at e
   rw[← ej,hj] at e
   have e:=Option.some.inj e
   have h1:=(hT.2 (j / 2) hi).2
   rw[← ej] at h1
   rw[e]
   exact⟨h1,(accept_le ⟨j / 2,hi⟩).2⟩
end Go.Proofs.YtfilonnphgnplaaGreatDoor
namespace Go.Proofs.YtfilonnphgnplaaGreatDoor.Pv.M
open Go
abbrev b_law11_TidyOrder_0:MC:=(.seq (.seq (.reg [v 33 4,o 34 (.bin .geq 0 (.t 33) (.k (.int .i64 0)))]) (.cond (.t 34) .skip (.exit 0))) (.seq (.block 1 (.draw [(0,2),(1,2),(0,3),(1,3),(0,4),(1,4),(2,4),(3,4),(0,5),(1,5),(0,6),(1,6),(0,7),(1,7),(2,7),(3,7),(4,7),(5,7),(6,7),(0,8),(1,8),(2,8),(3,8),(4,8),(5,8),(6,8),(0,9),(1,9),(2,9),(3,9),(4,9),(5,9),(6,9),(7,9),(8,9),(0,10),(1,10),(2,10),(3,10),(4,10),(5,10),(6,10),(0,11),(1,11),(2,11),(3,11),(4,11),(5,11),(6,11),(0,12),(1,12)] [f 37 3 8,w 38 37,f 39 1 8,w 40 39,v 41 4,o 42 (.iaddr (.t 40) (.t 41) 12),l 43 42 12,f 44 1 8,w 45 44,v 46 4,o 47 (.iaddr (.t 45) (.t 46) 12),l 48 47 12,o 49 (.bslice 12 z4 2 [(0,(.t 43)),(1,(.t 48))]),o 50 (.app (.t 38) (.t 49) 12),f 51 3 8,e (.store (.t 51) (.t 50) 1)])) (.reg [v 35 4,o 36 (.bin .sub 0 (.t 35) (.k (.int .i64 1))),v 4 36])))
abbrev t_law11_TidyOrder_0:MC:=(.seq (.reg [l 53 1 9,o 54 (.call F_tidy_Tidy [(.t 53)]),v 52 54,o 55 (.ext (.t 52) 0),o 56 (.ext (.t 52) 1),o 5 (.alloc z1),e (.store (.t 5) (.t 55) 9),v 6 56]) (.seq (.reg [l 58 3 9,o 59 (.call F_tidy_Tidy [(.t 58)]),v 57 59,o 60 (.ext (.t 57) 0),o 61 (.ext (.t 57) 1),o 7 (.alloc z1),e (.store (.t 7) (.t 60) 9),v 8 61]) (.seq (.reg [v 62 6,o 63 (.bin .eql 0 (.t 62) (.k (.int .i64 0))),v 64 63,g 65 64 true (.mv (.t 8)),g 66 64 true (.bin .eql 0 (.t 65) (.k (.int .i64 0))),o 67 (.pick (.t 64) (.t 66) (.k (.bool false))),v 68 67,g 69 68 true (.load (.t 5) 9 true),g 70 68 true (.load (.t 7) 9 true),g 71 68 true (.call F_law11_same [(.t 69),(.t 70)]),o 72 (.pick (.t 68) (.t 71) (.k (.bool false))),v 2 72]) .ret)))
abbrev m_law11_TidyOrder:MC:=(.seq (.reg [o 1 (.box (.t 0)),o 2 (.mv (.k (.bool false)))]) (.seq (.seq (.reg [o 9 (.call F_law11_fixed []),o 10 (.un .not (.t 9))]) (.cond (.t 10) (.seq (.reg [o 2 (.mv (.k (.bool false)))]) .ret) .skip)) (.seq (.seq (.reg [l 11 1 9,o 12 (.build z1 []),o 13 (.call F_law11_fits [(.t 11),(.t 12)]),o 14 (.un .not (.t 13)),v 15 14,g 16 15 false (.load (.t 1) 9 true),g 17 15 false (.call F_ref09_Formed [(.t 16)]),g 18 15 false (.un .not (.t 17)),o 19 (.pick (.t 15) (.k (.bool true)) (.t 18)),v 20 19,g 21 20 false (.faddr (.t 1) 8),g 22 20 false (.load (.t 21) 1 false),g 23 20 false (.len (.t 22)),g 24 20 false (.bin .gtr 0 (.t 23) (.k (.int .i64 50))),o 25 (.pick (.t 20) (.k (.bool true)) (.t 24))]) (.cond (.t 25) (.seq (.reg [o 2 (.mv (.k (.bool true)))]) .ret) .skip)) (.seq (.reg [l 26 1 9,o 3 (.alloc z1),e (.store (.t 3) (.t 26) 9)]) (.seq (.reg [o 27 (.bslice 12 z4 0 []),f 28 3 8,e (.store (.t 28) (.t 27) 1)]) (.seq (.seq (.reg [f 29 1 8,w 30 29,n 31 30,o 32 (.bin .sub 0 (.t 31) (.k (.int .i64 1))),v 4 32]) (.block 0 (.loop b_law11_TidyOrder_0))) t_law11_TidyOrder_0))))))
abbrev rs_law11_TidyOrder:List RV:=[(.tmp 2)]
end Go.Proofs.YtfilonnphgnplaaGreatDoor.Pv.M
namespace Go.Proofs.YtfilonnphgnplaaGreatDoor.Pv
open Go
set_option maxRecDepth 1000000
theorem h_law11_TidyOrder:mfOf prog M.F_law11_TidyOrder=some (M.m_law11_TidyOrder.erase,73,M.rs_law11_TidyOrder):=by kernel_rfl
end Go.Proofs.YtfilonnphgnplaaGreatDoor.Pv
set_option maxRecDepth 100000
namespace Go.Proofs.YtfilonnphgnplaaGreatDoor.Pv
open Go Go.Tidy
def dblO (l:List Ob):List Ob:=l.flatMap fun o=>[o,o]
theorem dbl_take {l:List Ob} {k:Nat} (hk:k<l.length):dblO (l.take (k+1))=dblO (l.take k)++[l[k],l[k]]:=by
 unfold dblO
 rw[List.take_succ_eq_append_getElem hk,List.flatMap_append]
 simp
theorem dbl_len (l:List Ob):(dblO l).length=2*l.length:=by
 induction l with
 | nil=>rfl
 | cons o l ih =>
   unfold dblO at ih ⊢
   simp only[List.flatMap_cons,List.length_append,List.length_cons,List.length_nil,ih]
   omega
theorem dbl_mem {l:List Ob} {o:Ob}:o∈dblO l↔o∈l:=by
 unfold dblO
 simp
def turned (t:Ty):Ty:=.mk t.all t.null t.fls t.tru t.nums t.any t.texts t.arrays (dblO t.objects.reverse)
theorem turned_mem {t:Ty} {o:Ob}:o∈(turned t).objects↔o∈t.objects:=by
 show o∈dblO t.objects.reverse↔_
 rw[dbl_mem,List.mem_reverse]
theorem turned_nil {t:Ty} (h:t.objects=[]):turned t=t:=by
 obtain⟨a,b,c,d,ns,e,ts,az,os⟩:=t
 simp only[Ty.objects_mk] at h
 subst h
 rfl
theorem formed_turned {t:Ty} (ht:formedT t=true):formedT (turned t)=true:=by
 by_cases h0:t.objects=[]
 ·rw[turned_nil h0]; exact ht
 obtain⟨t1,t2,t3,t4,t5,t6,t7,t8⟩:=formedT_spec ht
 refine formedT_intro (fun ha=>?_) t2 t3 t4 t5 t6 t7 fun o ho=>t8 o (turned_mem.1 ho)
 have:=t1 ha
 obtain⟨a,b,c,d,ns,e,ts,az,os⟩:=t
 simp only[Ty.objects_mk] at h0
 simp[bare,h0] at this
theorem rowO_same {l m:List Ob} (hl:∀ o∈l,formedO o=true) (hm:∀ o∈m,formedO o=true) (h:∀ o,o∈l↔o∈m):rowO l=rowO m:=by
 have h1:=setC_spec (D:=maxOkO) cmpO_swap cmpO_Q (fun _ _=>cmpO_eq) l (fun x hx=>maxOk_O (hl x hx))
 have h2:=setC_spec (D:=maxOkO) cmpO_swap cmpO_Q (fun _ _=>cmpO_eq) m (fun x hx=>maxOk_O (hm x hx))
 rw[rowO_eq,rowO_eq]
 exact SS_ext cmpO_swap h1.1 h2.1 fun x=>by rw[h1.2,h2.2,h]
theorem objectsO_same {N:Ty→Ty} {l m:List Ob} (hl:∀ o∈l,formedO o=true) (hm:∀ o∈m,formedO o=true) (h:∀ o,o∈l↔o∈m):objectsO N l=objectsO N m:=by
 unfold objectsO
 rw[rowO_same hl hm h]
theorem finT_turned (t:Ty) (az:List Arr) (os:List Ob):finT (turned t) az os=finT t az os:=rfl
theorem normal_turned {t:Ty} (ht:formedT t=true):∀ h,normalT h (turned t)=normalT h t:=by
 intro h
 by_cases h0:t.objects=[]
 ·rw[turned_nil h0]
 have hne:(turned t).objects≠[]:=fun e=>by
  obtain⟨o,ho⟩:=List.exists_mem_of_ne_nil _ h0
  have:=turned_mem.2 ho
  rw[e] at this; cases this
 cases h with
 | zero =>
   rw[normalT_zero,normalT_zero,finT_turned]
   have e1:(!(turned t).objects.isEmpty)=true:=by simpa using hne
   have e2:(!t.objects.isEmpty)=true:=by simpa using h0
   rw[e1,e2]
   simp
 | succ h =>
   rw[normalT_succ,normalT_succ,finT_turned]
   have t8:=(formedT_spec ht).2.2.2.2.2.2.2
   have hN:=formed_normalT h
   have hNn:∀ t,formedT t=true→never (normalT h t)=never t:=fun t ht=>never_normalT h t ht
   have e:objectsO (normalT h) ((turned t).objects.map (objectO (normalT h)))=objectsO (normalT h) (t.objects.map (objectO (normalT h))):=by
    refine objectsO_same (fun o ho=>?_) (fun o ho=>?_) fun o=>?_
    ·obtain⟨x,hx,rfl⟩:=List.mem_map.1 ho
     exact formed_objectO hN hNn (t8 x (turned_mem.1 hx))
    ·obtain⟨x,hx,rfl⟩:=List.mem_map.1 ho
     exact formed_objectO hN hNn (t8 x hx)
    ·simp only[List.mem_map,turned_mem]
   rw[e]
   rfl
theorem formFrom_turned {t:Ty} (ht:formedT t=true):∀ n h best,formFrom (turned t) n h best=formFrom t n h best:=by
 intro n
 induction n with
 | zero=>intro h best; rfl
 | succ n ih =>
   intro h best
   rw[formFrom_step,formFrom_step,normal_turned ht,ih]
theorem form_turned {t:Ty} (ht:formedT t=true):formT (turned t)=formT t:=by
 unfold formT
 rw[formFrom_turned ht,normal_turned ht]
theorem bd_turned {NM:List S} {m:Nat} {t:Ty} (h:bdT NM m t) (hl:2*t.objects.length≤m):bdT NM m (turned t):=by
 rw[bdT_iff] at h ⊢
 refine⟨h.1,?_,h.2.2.1,fun o ho=>h.2.2.2 o (turned_mem.1 ho)⟩
 show (dblO t.objects.reverse).length≤m
 rw[dbl_len,List.length_reverse]; exact hl
theorem height_turned (t:Ty) {n:Nat} (h:heightT t≤n+1):heightT (turned t)≤n+1:=by
 rw[height_le_succ] at h ⊢
 exact⟨h.1,fun o ho=>h.2 o (turned_mem.1 ho)⟩
set_option maxHeartbeats 8000000 in
theorem c_law11_TidyOrder (hL:LibOk) (t:Ty):Ret prog M.F_law11_TidyOrder [.agg (cT t)] (.bool true):=by
 refine Ret.go hmix h_law11_TidyOrder (by simp) fun hb w0 F0 hG=>?_
 have c0:=c_law11_fixed hL
 have c1:=c_law11_fits t xNo
 have c2:=c_ref09_Formed t
 simp
 intros
 refine XCall.ret (by first|exact c0|(simp; exact c0)) ?_
 simp
 refine XCall.ret (by first|exact c1|(simp; exact c1)) ?_
 cases g:fitsB t xNo
 ·simp[g]
 simp[g]
 refine XCall.ret (by first|exact c2|(simp; exact c2)) ?_
 cases g2:formedT t
 ·simp[g,g2]
 by_cases g3:50<t.objects.length
 ·have g3' : (50:Int)<t.objects.length:=by omega
  simp[g,g2,g3']
 have g3' : ¬ (50:Int)<t.objects.length:=by omega
 have hf:fitB t=true:=by
  unfold fitsB at g
  simp only[Bool.and_eq_true] at g
  exact g.1.1.1
 obtain⟨f1,f2,f3⟩:=fit_all hf
 have hh:=ht_sz t
 have b1:bdT (nmsP t) 20001 t:=bd_mono (by omega) t f3
 have k1:=p_Tidy hL (nmsP t) (by omega) t 20001 (by omega) b1 (by omega)
 have k2:=p_Tidy hL (nmsP t) (by omega) (turned t) 20001 (by omega) (bd_turned b1 (by omega)) (by have:=height_turned t (n:=20000) (by omega); omega)
 rw[formed_turned g2,form_turned g2] at k2
 rw[g2] at k1
 have c3:=c_law11_same (formT t) (formT t)
 rw[eqv_true rfl] at c3
 generalize formT t=r at *
 have hwl:=wrap64 (n:=(t.objects.length:Int)-1) (by omega) (by omega)
 simp[g,g2,g3',hwl]
 intro v3 v4
 rename_i v1
 obtain⟨I,hI⟩ : ∃ I:Nat→Int,I=fun k:Nat=>(t.objects.length:Int)-1-(k:Int):=⟨_,rfl⟩
 have I0:(t.objects.length:Int)-1=I 0:=by rw[hI]; simp
 rw[I0]
 obtain⟨L,hLe⟩ : ∃ L,L=t.objects.reverse:=⟨_,rfl⟩
 have hLl:L.length=t.objects.length:=by rw[hLe,List.length_reverse]
 obtain⟨J,hJ⟩ : ∃ J:Nat→List Ob→Prop,J=fun k acc=>acc=dblO (L.take k):=⟨_,rfl⟩
 refine XLoop.cntR hmix [(9000003,12,1001)] rfl t.objects.length (fun v k (acc:List Ob)=>⟨[(4,.int .i64 (I k)),(3,.ptr (3,v3) 9 0 0),(1,.ptr (1,v1) 9 0 0)],
  [((3,v3),some ⟨9,[twRow t (.vec 11 false (t.arrays.map encArr)) (.own (1001,v) 12 0 acc.length false)],false,true⟩),((1001,v),some ⟨12,acc.map encObj,false,false⟩),((1,v1),some ⟨9,[cT t],false,true⟩)]⟩) J [] (by rw[hJ]; simp[dblO]) (fun v=>by simp[twRow]) fun v k acc _ hk hj=>?_
 have hj' : acc=dblO (L.take k):=by rw[hJ] at hj; exact hj
 clear hj
 have hal:acc.length=2*k:=by rw[hj',dbl_len]; simp; omega
 by_cases gk:k<t.objects.length
 ·have e1:I k=((t.objects.length-1-k:Nat):Int):=by rw[hI]; show (t.objects.length:Int)-1-k=_; omega
  have hw:IntKind.i64.wrap (((t.objects.length-1-k:Nat):Int)-1)=I (k+1):=by
   rw[wrap64 (by omega) (by omega),hI]
   show _=(t.objects.length:Int)-1-((k+1:Nat):Int)
   omega
  have hgt:t.objects.length-1-k<t.objects.length:=by omega
  have eL:L[k]'(by omega)=t.objects[t.objects.length-1-k]:=by simp only[hLe,List.getElem_reverse]
  have hJn:J (k+1) (acc++[t.objects[t.objects.length-1-k],t.objects[t.objects.length-1-k]]):=by
   rw[hJ]
   show _=_
   rw[dbl_take (by omega),hj',eL]
  generalize hi:t.objects.length-1-k=i at *
  generalize ho:t.objects[i]=o at *
  simp[e1,hgt,ho,twRow]
  intro v5
  exact⟨by omega,gk,acc++[o,o],hJn,fun v=>⟨hw,by simp,leR_eq' (by simp)⟩⟩
 ·have e1:¬ 0≤I k:=by rw[hI]; show ¬ 0≤(t.objects.length:Int)-1-k; omega
  have hacc:acc=dblO t.objects.reverse:=by rw[hj',List.take_of_length_le (by omega),hLe]
  have k2' : Ret prog M.F_tidy_Tidy [.agg [.bool t.all,.bool t.null,.bool t.fls,.bool t.tru,.vec 2 false (t.nums.map encSpan),.bool t.any,.vec 1 false (t.texts.map encStr),.vec 11 false (t.arrays.map encArr),.vec 12 false (acc.map encObj)]] (.tup [.agg (cT r),.int .i64 0]):=by rw[hacc]; exact k2
  simp[e1,twRow]
  refine XCall.ret (by first|exact k1|(simp; exact k1)) ?_
  simp
  intros
  refine XCall.ret (by first|exact k2'|(simp; exact k2')) ?_
  simp
  intros
  refine XCall.ret (by first|exact c3|(simp; exact c3)) ?_
  simp
end Go.Proofs.YtfilonnphgnplaaGreatDoor.Pv
namespace Go.Proofs.YtfilonnphgnplaaGreatDoor.Pv
open Go Go.Tidy
theorem tidyOrder_ret (t:Ty):Ret prog M.F_law11_TidyOrder [.agg (cT t)] (.bool true):=c_law11_TidyOrder libOk t
end Go.Proofs.YtfilonnphgnplaaGreatDoor.Pv
